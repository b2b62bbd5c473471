/-
  The laws' helpers on slices of Step: their cells; copied, compared, measured; openers.
  Conditions: at most 2^20 elements.
-/
import Derived.Test.YtoijojdegohknaaEqC
import Derived.Test.YtoijojdegohknaaCells
import Derived.Test.YtoijojdegohknaaPart
import Derived.Test.YtoijojdegohknaaOpen2
import Derived.Deep.RegionHeld3
namespace Go.Proofs.Ytoijojdegohknaa
open Go.ChangeShapes Go.WideShapes Go.ChangeAt Go.RowKit Go.Joins Go.Deep
set_option linter.unusedVariables false

structure M.Step where
  rule : Int
  place : Int
theorem step_ext {x y : M.Step} (h : x.rule = y.rule ∧ x.place = y.place) : x = y := by cases x; cases y; simp_all
def stepCells (x : M.Step) : List Value := [.int .i64 x.rule, .int .i64 x.place]
def steps_ (xs : List M.Step) : List Value := xs.flatMap stepCells
theorem steps_len (xs : List M.Step) : (steps_ xs).length = xs.length * 2 := flat_len (f := stepCells) (s := 2) (fun _ => rfl) xs
theorem Rd.stepAt {w : World} {A : Option Addr} {n : Nat} {xs : List M.Step} (h : Rd w 2 A n (steps_ xs)) {k : Nat} (hk : k < n) :
    ∃ b o, A = some ⟨b, o, none⟩ ∧ ∃ hz : k < xs.length, w.cell? ⟨b, o + k * 2, none⟩ = some (.int .i64 xs[k].rule) ∧ w.cell? ⟨b, o + k * 2 + 1, none⟩ = some (.int .i64 xs[k].place) := by
  obtain ⟨b, o, e, hc⟩ := h.2 (by omega)
  have hl : k < xs.length := by have := h.1; rw [steps_len] at this; omega
  have hq := fun q hq => flat_at (f := stepCells) (s := 2) (fun _ => rfl) xs k q hl hq
  refine ⟨b, o, e, hl, ?_, ?_⟩
  · simpa using hc (k * 2) _ (hq 0 (by omega))
  · rw [Nat.add_assoc]; exact hc (k * 2 + 1) _ (hq 1 (by omega))
theorem Try.cellsLawStep : Try.prog.cellsOf 59 = 2 := by kernel_rfl
section
variable {H : Type} {enc : TypeId × Value → H} {w : World} {b0 : Nat} {held : Bool} {spare : Nat → Bool} {v : Value} {d : DataW H} {p : List MemPlace}
set_option maxRecDepth 100000 in
theorem openStepSlice {n : Nat} {v : Value} {y : DataW H × List MemPlace} (h : DataW.trod enc Try.prog w 0 spare held n 64 [v] = some y) :
    ∃ (A : Option Addr) (c : Nat) (xs : List M.Step), v = .slice A xs.length c ∧ xs.length ≤ 9223372036854775807 ∧ Rd w 2 A xs.length (steps_ xs) ∧ ∀ x ∈ xs, True :=
  openElems stepCells (fun _ => True) (fun _ => rfl) (by decide) Try.underlying64 Try.cellsLawStep (fun m cs y hl hy => by
    obtain ⟨_, k, hk⟩ := structCells Try.underlying59 (by kernel_rfl) Try.cellsLawStep hy
    match cs, hl with
    | [c0, c1], _ =>
      obtain ⟨y0, h0⟩ := hk 0 _ c0 rfl rfl
      obtain ⟨y1, h1⟩ := hk 1 _ c1 rfl rfl
      obtain ⟨x0, rfl, _⟩ := openOneInt h0
      obtain ⟨x1, rfl, _⟩ := openOneInt h1
      exact ⟨⟨x0, x1⟩, rfl, trivial⟩) h
set_option maxRecDepth 100000 in
theorem openSteps (hv : Value.okWide Try.prog w .any b0 64 v) (h : DataW.Trod enc Try.prog w 0 spare held 64 v d p) :
    ∃ (A : Option Addr) (c : Nat) (xs : List M.Step), v = .slice A xs.length c ∧ (xs.length ≤ 9223372036854775807 ∧ Rd w 2 A xs.length (steps_ xs)) := by
  obtain ⟨a0, len, cap, rfl⟩ := okWide_slice Try.underlying64 hv
  obtain ⟨fuel, hf⟩ := h
  obtain ⟨A, c, xs, e, h1, h2, _⟩ := openStepSlice (v := .slice a0 len cap) (by simpa [Value.cells] using hf)
  exact ⟨A, c, xs, e, h1, h2⟩
end
set_option maxRecDepth 100000 in
theorem szStepS_c (A : Option Addr) (c m : Nat) (n : Int) (w : World) (hl : m ≤ 9223372036854775807) (hn : n ≤ 1048576) (hn0 : 0 ≤ n) :
    Calls Try.prog 44 #[.slice A m c, .int .i64 n] w fun e w' => e = .returned (.int .i64 (if n - m < 0 then -1 else n - m)) ∧ w = w' := by
  by_cases h : n - m < 0
  all_goals
    first | rw [if_pos h] | rw [if_neg h]
    go_enter Try.func44, Try.ntmps44
    go_wp2
    go_ret
    exact ⟨rfl, rfl⟩
set_option maxRecDepth 100000 in
set_option maxHeartbeats 1000000 in
theorem toStep_c (x0 : Int) (x1 : Int) (w : World) : Calls Try.prog 42 #[.agg #[.int .i64 x0, .int .i64 x1]] w fun e w' => e = .returned (.agg #[.int .i64 x0, .int .i64 x1]) ∧ Below w.heap.size w w' := by
  go_enter Try.func42, Try.ntmps42
  go_wp2
  refine bodyPost_ret (v := .agg #[.int .i64 x0, .int .i64 x1]) (by simp [results, Try.results42, go_sem]) rfl ⟨rfl, ?_⟩
  repeat' (first | exact Below.refl _ _ | (refine Below.alloc ?_ (by simp <;> omega) _) | (refine Below.setCell ?_ (by simp <;> omega) _))
set_option maxRecDepth 100000 in
set_option maxHeartbeats 1000000 in
theorem eqStep_c (x0 : Int) (x1 : Int) (y0 : Int) (y1 : Int) (w : World) : Calls Try.prog 31 #[.agg #[.int .i64 x0, .int .i64 x1], .agg #[.int .i64 y0, .int .i64 y1]] w fun e w' => e = .returned (.bool (decide (x0 = y0 ∧ x1 = y1))) ∧ Below w.heap.size w w' := by
  by_cases h0 : x0 = y0
  case neg =>
    have h1' : (x0 == y0) = false := by simpa using h0
    have h2' : (x0 != y0) = true := by simpa using h0
    rw [decide_eq_false (fun h => h0 h.1)]
    clear h0
    go_enter Try.func31, Try.ntmps31
    go_wp2
    go_ret
    exact ⟨rfl, ((Below.refl _ _).alloc (Nat.le_refl _) _).alloc (by simp) _⟩
  subst h0
  by_cases h1 : x1 = y1
  case neg =>
    have h1' : (x1 == y1) = false := by simpa using h1
    have h2' : (x1 != y1) = true := by simpa using h1
    rw [decide_eq_false (fun h => h1 h.2)]
    clear h1
    go_enter Try.func31, Try.ntmps31
    go_wp2
    go_ret
    exact ⟨rfl, ((Below.refl _ _).alloc (Nat.le_refl _) _).alloc (by simp) _⟩
  subst h1
  rw [decide_eq_true ⟨rfl, rfl⟩]
  go_enter Try.func31, Try.ntmps31
  go_wp2
  go_ret
  exact ⟨rfl, ((Below.refl _ _).alloc (Nat.le_refl _) _).alloc (by simp) _⟩
set_option maxRecDepth 100000 in
set_option maxHeartbeats 2000000 in
theorem eqStepS_c (A B : Option Addr) (c d : Nat) (xs ys : List M.Step) (w : World) (hA : Rd w 2 A xs.length (steps_ xs)) (hB : Rd w 2 B ys.length (steps_ ys)) (hx : xs.length ≤ 1099511627776) (hy : ys.length ≤ 1099511627776) :
    Calls Try.prog 37 #[.slice A xs.length c, .slice B ys.length d] w fun e w' => (∃ b, e = .returned (.bool b) ∧ (b = true ↔ xs = ys)) ∧ Below w.heap.size w w' := by
  by_cases hl : xs.length = ys.length
  case neg =>
    have hne : ¬ xs = ys := fun e => hl (by rw [e])
    have hl' : ((xs.length : Int) != (ys.length : Int)) = true := by rw [bne_iff_ne]; omega
    go_enter Try.func37, Try.ntmps37
    go_wp2
    go_ret
    exact ⟨⟨false, rfl, by simp [hne]⟩, Below.refl _ _⟩
  case pos =>
    have HL := Lib.hid hl
    have HA := Lib.hid hA
    have HB := Lib.hid hB
    obtain ⟨n, hn⟩ : ∃ n, n = ys.length := ⟨_, rfl⟩
    have hn1 : xs.length = n := by omega
    rw [hn1, ← hn]
    have HN := Lib.hid hn
    have HN1 := Lib.hid hn1
    have hn2 : n ≤ 1099511627776 := by omega
    clear hA hB hn hn1 hl hx hy
    go_enter Try.func37, Try.ntmps37
    go_wp2
    go_loopw [5] (fun i wr => ∃ k : Nat, k ≤ n ∧ i = .int .i64 k ∧ xs.take k = ys.take k ∧ Below w.heap.size w wr) (fun i _ => n - (intOf i).toNat)
    case atStart => exact ⟨0, by omega, rfl, by simp, Below.refl _ _⟩
    case round =>
      obtain ⟨k, hk, rfl, ht, hb⟩ := hrel
      have HT := Lib.hid ht
      have HW := Lib.hid hb
      clear ht hb
      by_cases hlt : k < n
      · obtain ⟨b1, o1, rfl, hz1, hc0, hc1⟩ := (HA.out.below HW.out).stepAt (k := k) (by have := HN1.out; omega)
        obtain ⟨b2, o2, rfl, hz2, hd0, hd1⟩ := (HB.out.below HW.out).stepAt (k := k) (by have := HN.out; omega)
        have hq := Lib.hid (fun W => eqStep_c xs[k].rule xs[k].place ys[k].rule ys[k].place W)
        by_cases he : xs[k].rule = ys[k].rule ∧ xs[k].place = ys[k].place
        · have HE := Lib.hid (take_eq_succ hz1 hz2 HT.out (step_ext he))
          have hd := Lib.hid (decide_eq_true he)
          rw [hd.out] at hq
          clear he
          generalize xs[k] = x at *
          generalize ys[k] = y at *
          obtain ⟨x0, x1⟩ := x
          obtain ⟨y0, y1⟩ := y
          simp only at hc0 hc1 hd0 hd1 hq
          go_wp2
          go_region_held3 (fun w' => w'.cell? ⟨b1, o1 + k * 2, none⟩ = some (.int .i64 x0) ∧ w'.cell? ⟨b1, o1 + k * 2 + 1, none⟩ = some (.int .i64 x1) ∧ w'.cell? ⟨b2, o2 + k * 2, none⟩ = some (.int .i64 y0) ∧ w'.cell? ⟨b2, o2 + k * 2 + 1, none⟩ = some (.int .i64 y1) ∧ Below wr.heap.size wr w') (first | exact ⟨hc0, hc1, hd0, hd1, (Below.refl _ _).drew⟩ | assumption | exact held4 (by assumption) hb1) (first | (go_simp; go_at_call 31; refine (hq.out _).mono ?_; rintro e w1 ⟨rfl, hb1⟩))
          all_goals
            have hh : Below wr.heap.size wr w1 := held4_below (by assumption)
            go_wp2
            go_roundw
            case rel => exact ⟨k + 1, by omega, by go_num, HE.out, HW.out.trans (hh.mono HW.out.size)⟩
            case measure => simp [intOf]; omega
        · have HE := Lib.hid (ne_at hz1 hz2 (fun e => he (by rw [e]; exact ⟨rfl, rfl⟩)))
          have hd := Lib.hid (decide_eq_false he)
          rw [hd.out] at hq
          clear he
          generalize xs[k] = x at *
          generalize ys[k] = y at *
          obtain ⟨x0, x1⟩ := x
          obtain ⟨y0, y1⟩ := y
          simp only at hc0 hc1 hd0 hd1 hq
          go_wp2
          go_region_held3 (fun w' => w'.cell? ⟨b1, o1 + k * 2, none⟩ = some (.int .i64 x0) ∧ w'.cell? ⟨b1, o1 + k * 2 + 1, none⟩ = some (.int .i64 x1) ∧ w'.cell? ⟨b2, o2 + k * 2, none⟩ = some (.int .i64 y0) ∧ w'.cell? ⟨b2, o2 + k * 2 + 1, none⟩ = some (.int .i64 y1) ∧ Below wr.heap.size wr w') (first | exact ⟨hc0, hc1, hd0, hd1, (Below.refl _ _).drew⟩ | assumption | exact held4 (by assumption) hb1) (first | (go_simp; go_at_call 31; refine (hq.out _).mono ?_; rintro e w1 ⟨rfl, hb1⟩))
          all_goals
            have hh : Below wr.heap.size wr w1 := held4_below (by assumption)
            go_wp2
            go_ret
            exact ⟨⟨false, rfl, by simp [HE.out]⟩, HW.out.trans (hh.mono HW.out.size)⟩
      · have HE := Lib.hid (eq_of_takes HL.out (by have := HN1.out; omega) HT.out)
        go_wp2
        go_ret
        exact ⟨⟨true, rfl, by simp [HE.out]⟩, HW.out⟩
theorem eqStepS_t (A B : Option Addr) (c d : Nat) (xs : List M.Step) (w : World) (hA : Rd w 2 A xs.length (steps_ xs)) (hB : Rd w 2 B xs.length (steps_ xs)) (hx : xs.length ≤ 1099511627776) :
    Calls Try.prog 37 #[.slice A xs.length c, .slice B xs.length d] w fun e w' => e = .returned (.bool true) ∧ Below w.heap.size w w' :=
  (eqStepS_c A B c d xs xs w hA hB hx hx).mono fun _ _ ⟨⟨b, he, hi⟩, hb⟩ => ⟨he.trans (ret_bool (hi.2 rfl)), hb⟩
set_option maxRecDepth 100000 in
set_option maxHeartbeats 1000000 in
theorem toStepS_c (A : Option Addr) (c : Nat) (rs : List M.Step) (w : World) (hA : Rd w 2 A rs.length (steps_ rs)) (hl : rs.length ≤ 1048576) :
    Calls Try.prog 46 #[.slice A rs.length c] w (RetRd (fun A c => .slice A rs.length c) 2 rs.length (steps_ rs) w) := by
  have HA := Lib.hid hA
  obtain ⟨n, hn⟩ : ∃ n, n = rs.length := ⟨_, rfl⟩
  have hnb : n ≤ 1048576 := by omega
  have HN := Lib.hid hn
  rw [← hn]
  clear hA hl hn
  go_enter Try.func46, Try.ntmps46
  go_wp2_with (at_make; refine make_law rfl _ rfl (sl_of Try.underlying54 (by decide) (by kernel_rfl) : SlT Try.prog 54 47 2) rfl (by omega) ?_; intro zs w' hzl hown hb')
  obtain ⟨g, hg⟩ : ∃ g, g = w.heap.size := ⟨_, rfl⟩
  rw [← hg] at hown ⊢
  have HO := Lib.hid hown
  have HB := Lib.hid hb'
  have HL := Lib.hid hzl
  have HG := Lib.hid hg
  clear hown hb' hzl hg
  go_loopw [4] (fun i wr => ∃ k : Nat, k ≤ n ∧ i = .int .i64 k ∧ Own wr g 2 (some ⟨g, 0, none⟩) n (part stepCells rs zs 2 k) ∧ Below w.heap.size w wr) (fun i _ => n - (intOf i).toNat)
  case atStart => exact ⟨0, by omega, rfl, by rw [part_zero]; exact HO.out, HB.out⟩
  case round =>
    obtain ⟨k, hk, rfl, hown, hb⟩ := hrel
    by_cases hlt : k < n
    · obtain ⟨b, o, rfl, hz, hc0, hc1⟩ := (HA.out.below hb).stepAt (k := k) (by have := HN.out; omega)
      have HP := Lib.hid (fun u0 u1 (h : stepCells rs[k] = [u0, u1]) => part2 (f := stepCells) (rs := rs) (zs := zs) (fun _ => rfl) hz (by have h1 := HL.out; have h2 := HN.out; omega) h)
      have HO := Lib.hid hown
      have HB := Lib.hid hb
      clear hown hb
      generalize rs[k] = r at *
      obtain ⟨x0, x1⟩ := r
      simp only at hc0 hc1
      go_wp2_with fail
      refine (toStep_c x0 x1 _).mono ?_
      rintro e w1 ⟨rfl, hb1⟩
      have HO1 := HO.out.below hb1
      obtain ⟨hgb, hcs, hfs, hset⟩ := HO1.at0 (by omega)
      have hlm : k * 2 + 1 < (part stepCells rs zs 2 k).length := by have := HO1.len; omega
      have hv0 := hcs (k * 2) _ (List.getElem?_eq_getElem (by omega))
      have hv1 := hcs (k * 2 + 1) _ (List.getElem?_eq_getElem (by omega))
      have hf0 := hfs (k * 2)
      have hf1 := hfs (k * 2 + 1)
      have hs0 := hset (k * 2) (.int .i64 x0)
      have hs1 := (hs0.at0 (by omega)).2.2.2 (k * 2 + 1) (.int .i64 x1)
      have HS := Lib.hid hs1
      have HT := Lib.hid (HB.out.trans (hb1.mono HB.out.size))
      have HGG := Lib.hid hgb
      generalize (part stepCells rs zs 2 k)[k * 2] = v0 at hv0
      generalize (part stepCells rs zs 2 k)[k * 2 + 1] = v1 at hv1
      clear hcs hfs hset HO1 hb1 hgb hs0 hs1
      go_wp2_with fail
      go_roundw
      case rel => exact ⟨k + 1, by omega, by go_num, by have h1 := HS.out; rwa [HP.out _ _ rfl] at h1, by have hgs := HG.out; have hts := HT.out; repeat (first | exact hts | refine Below.setCell ?_ (by simp; omega) _)⟩
      case measure => simp [intOf]; omega
    · obtain rfl : k = n := by omega
      have HO := Lib.hid hown
      have HB := Lib.hid hb
      clear hown hb
      go_wp2
      go_ret
      exact ⟨_, _, rfl, by have h1 := HO.out; have h2 := HN.out; subst h2; rw [part_all HL.out] at h1; have h3 := HG.out; subst h3; exact h1, HB.out⟩

end Go.Proofs.Ytoijojdegohknaa
