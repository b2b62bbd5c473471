/-
  Contracts of slices.Grow of a nil slice, and of slices.Concat of three lists of numbers that are not empty.
  Conditions: lists of at most 2^20 numbers.
-/
import Derived.Test.YtlohpphmamapeaaIdealM
import Derived.Test.YtlohpphmamapeaaIdeal
import Derived.Lib.AppendZerosOnto
namespace Go.Proofs.Ytlohpphmamapeaa
open Go.RowKit
set_option linter.unusedVariables false
set_option linter.unusedSimpArgs false

theorem ints_one (l : List Int) : ∀ u ∈ ints l, u.oneCell' = true := fun u hu => by
  obtain ⟨z, _, rfl⟩ := List.mem_map.1 hu
  rfl
theorem cell_lo {w w' : World} {b o : Nat} {u : Value} (hb : Below w.heap.size w w') (h : w.cell? ⟨b, o, none⟩ = some u) : w'.cell? ⟨b, o, none⟩ = some u := cellKeep hb h
/-- The lists one after the other. -/
def catTo (x : Nat → List Int) (j : Nat) : List Int := (List.range j).flatMap x
theorem catTo_succ (x : Nat → List Int) (j : Nat) : catTo x (j + 1) = catTo x j ++ x j := by simp [catTo, List.range_succ]
theorem catTo_mono (x : Nat → List Int) {j m : Nat} (h : j ≤ m) : (catTo x j).length ≤ (catTo x m).length := by
  obtain ⟨d, rfl⟩ : ∃ d, m = j + d := ⟨m - j, by omega⟩
  clear h
  induction d with
  | zero => exact Nat.le_refl _
  | succ d ih => rw [← Nat.add_assoc, catTo_succ, List.length_append]; omega
theorem zeros_law {ops : Array Oper} {rest : List Oper} {o : Oper} {a : Act} {Q : Exit → Act → World → Prop} {w w' : World} (hgd : o.guard = none) (s x : Operand) (ho : o.op = .call { callee := .builtin .append, args := #[s, x], argTypes := #[35, 3] })
    {v : Value} {n : Int} (hs : a.eval s = .slice none 0 0) (hx : a.eval x = .int .i64 n) (hr : ∀ ty, (Builtin.append_ #[35, 3] ty #[.slice none 0 0, .int .i64 n]).run Try.prog w = .ok v w')
    (h : wpList Try.prog ops Q rest (a.put o.dst v) w') : wpList Try.prog ops Q (o :: rest) a w := by
  refine wpList_plain hgd fun K hK => ?_
  unfold Oper.wp
  simp [execOp, ho, resolve, invoke, builtin, hs, hx, hr, Result.andThen]
  exact hK _ _ h
set_option maxRecDepth 100000 in
set_option maxHeartbeats 2000000 in
theorem Grow_nil (n : Nat) (w : World) (hn0 : 0 < n) (hn : n ≤ 16777216) :
    Calls Try.prog 140 #[.slice none 0 0, .int .i64 n] w fun e w' => ∃ g c, e = .returned (.slice (some ⟨g, 0, none⟩) 0 c) ∧ w'.ownsRow w.heap.size 3 1 (.slice (some ⟨g, 0, none⟩) 0 c) 0 [] ∧ Below w.heap.size w w' := by
  obtain ⟨i, z, hi, hz, hsz, hby, hzs⟩ := slInt.info
  have hge := grownCap_ge w n 0 3
  have hle := grownCap_le_maxLen w n 0 3 (by simp only [maxLen]; omega)
  have hnb : n * i.bytes ≤ 140737488355328 := by
    have := Nat.mul_le_mul (show n ≤ 16777216 by omega) hby
    omega
  have hrz : ∀ ty, (Builtin.append_ #[35, 3] ty #[.slice none 0 0, .int .i64 (n : Int)]).run Try.prog w = .ok (.slice (some ⟨w.heap.size, 0, none⟩) n (grownCap w n 0 3)) (w.drew.alloc (.cells (#[] ++ Builtin.zeroCells z.cells n ++ Builtin.zeroCells z.cells (grownCap w n 0 3 - n)) 3)) := fun ty => by
    have h := Lib.run_append_grow_zeros (P := Try.prog) w 35 3 ty 3 i z .i64 .i64 slInt.und Try.underlying3 hi hz none 0 0 [] (run_firstCells_none w.drew i.size 0 0 0) n hn0 (by omega) (by omega) (by omega) (by omega) (growslice_fits (by omega) (by simpa using hnb))
    simpa using h
  obtain ⟨G, hG⟩ : ∃ G, G = grownCap w n 0 3 := ⟨_, rfl⟩
  rw [← hG] at hrz hge hle
  clear hG
  have HO : Hid (∀ cs : Array Value, cs = #[] ++ Builtin.zeroCells z.cells n ++ Builtin.zeroCells z.cells (G - n) → (w.drew.alloc (.cells cs 3)).ownsRow w.heap.size 3 1 (.slice (some ⟨w.heap.size, 0, none⟩) 0 G) 0 []) := Lib.hid (fun cs hcs => ⟨by simp, Or.inr ⟨w.heap.size, G, cs, rfl, Nat.le_refl _, heap_alloc_new w.drew _, Nat.zero_le _, hle, by rw [hcs]; simp [size_zeroCells, hzs]; omega, by simp⟩⟩)
  generalize hcs : #[] ++ Builtin.zeroCells z.cells n ++ Builtin.zeroCells z.cells (G - n) = cs at *
  have HO1 := Lib.hid (HO.out cs rfl)
  have hG63 : (0 : Int) ≤ (G : Int) := by omega
  clear HO hcs hby hzs hi hz hsz hnb hle
  go_enter Try.func140, Try.ntmps140
  have HRZ := Lib.hid hrz
  clear hrz
  go_wp2_with (at_builtin; refine zeros_law rfl _ _ rfl rfl rfl HRZ.out ?_)
  go_ret
  exact ⟨w.heap.size, G, rfl, HO1.out, ((Below.refl w.heap.size w).drew).alloc (by simp) _⟩
set_option maxRecDepth 100000 in
set_option maxHeartbeats 4000000 in
theorem Concat_c (g m : Nat) (ad : Nat → Addr) (c : Nat → Nat) (x : Nat → List Int) (w : World) (hm : m ≤ 40) (hg : ∀ j, j < m → w.cell? ⟨g, j, none⟩ = some (.slice (some (ad j)) (x j).length (c j))) (hrd : ∀ j, j < m → Rd w 1 (some (ad j)) (x j).length (ints (x j))) (hp : 0 < (catTo x m).length) (hl : (catTo x m).length ≤ 1048576) :
    Calls Try.prog 90 #[.slice (some ⟨g, 0, none⟩) m m] w (RetRow 3 1 (catTo x m).length (ints (catTo x m)) w) := by
  have HG := Lib.hid hg
  have HRD := Lib.hid hrd
  have HM := Lib.hid (fun j (h : j ≤ m) => Nat.le_trans (catTo_mono x h) hl)
  have HS := Lib.hid (fun j => catTo_succ x j)
  have HZ0 := Lib.hid (show catTo x 0 = [] from rfl)
  have HGR := Lib.hid (fun W => Grow_nil (catTo x m).length W hp (by omega))
  clear hg hrd hp hl
  generalize hcat : catTo x = cat at *
  clear hcat
  go_enter Try.func90, Try.ntmps90
  go_wp2_with fail
  go_loop [3, 11] (fun s z => ∃ j : Nat, j ≤ m ∧ z = .int .i64 (j : Int) ∧ s = .int .i64 ((cat j).length : Int)) (fun _ z => m - (intOf z).toNat)
  case atStart => exact ⟨0, by omega, rfl, by rw [HZ0.out]; rfl⟩
  case round =>
    obtain ⟨j, hj, rfl, rfl⟩ := hrel
    by_cases hlt : j < m
    case pos =>
      have cj := HG.out j hlt
      have hs1 := HM.out (j + 1) hlt
      rw [HS.out j, List.length_append] at hs1
      have HSj := Lib.hid (HS.out j)
      have hji : (j : Int) < (m : Int) := by omega
      have hneg : ¬ (((cat j).length : Int) + ((x j).length : Int) < 0) := by omega
      go_wp2_with fail
      go_round
      case rel => exact ⟨j + 1, by omega, by go_num, by rw [HSj.out, List.length_append]; go_num⟩
      case measure => simp [intOf] <;> omega
    case neg =>
      obtain rfl : j = m := by omega
      go_wp2_with fail
      refine (HGR.out _).mono ?_
      rintro e w1 ⟨g1, c1, rfl, ho, hb⟩
      have HO := Lib.hid ho
      have HB := Lib.hid hb
      clear ho hb
      go_wp2_with fail
      go_loopw [6, 27] (fun s z wr => ∃ (i n : Nat) (A' : Option Addr) (c' : Nat), i ≤ j ∧ z = .int .i64 (i : Int) ∧ n = (cat i).length ∧ s = .slice A' n c' ∧ wr.ownsRow w.heap.size 3 1 (.slice A' n c') n (ints (cat i)) ∧ Below w.heap.size w wr) (fun _ z _ => j - (intOf z).toNat)
      case atStart => exact ⟨0, 0, _, c1, by omega, rfl, by rw [HZ0.out]; rfl, rfl, by rw [HZ0.out]; exact HO.out, HB.out⟩
      case round =>
        obtain ⟨i, n, A', c', hi, rfl, hn, rfl, hown, hb⟩ := hrel
        have HO2 := Lib.hid hown
        have HB2 := Lib.hid hb
        have HN := Lib.hid hn
        clear hown hb hn
        by_cases hlt2 : i < j
        case neg =>
          obtain rfl : i = j := by omega
          go_wp2_with fail
          go_ret
          exact ⟨A', c', by rw [← HN.out]; rfl, by rw [← HN.out]; exact HO2.out, HB2.out⟩
        case pos =>
          have ci := cell_lo HB2.out (HG.out i hlt2)
          have RI := Lib.hid ((HRD.out i hlt2).below HB2.out)
          have HSi := Lib.hid (HS.out i)
          have hs1 := HM.out (i + 1) (by omega)
          rw [HSi.out, List.length_append, ← HN.out] at hs1
          have hii : (i : Int) < (j : Int) := by omega
          have hx1 := Lib.hid (ints_one (x i))
          go_wp2_with (at_builtin; refine push_many rfl _ _ rfl slInt rfl HO2.out rfl RI.out hx1.out HB2.out rfl (by omega) ?_; intro A5 c5 w5 hown5 hb5)
          go_roundw
          case rel => exact ⟨i + 1, n + (x i).length, A5, c5, by omega, by go_num, by rw [HSi.out, List.length_append, HN.out], rfl, by rw [HSi.out, ints_add]; exact hown5, hb5⟩
          case measure => simp [intOf] <;> omega
end Go.Proofs.Ytlohpphmamapeaa
