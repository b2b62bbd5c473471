/-
  Contracts of StartWork; the marking of a work without rules.
  Conditions: at most 2^20 equations.
-/
import Derived.Test.YtoijojdegohknaaWork
import Derived.Test.YtoijojdegohknaaPushM
import Derived.Test.YtoijojdegohknaaFirst
import Derived.Lib.SliceRun
namespace Go.Proofs.Ytoijojdegohknaa
open Go.RowKit
set_option linter.unusedVariables false
set_option linter.unusedSimpArgs false

def M.startOk (k : Int) (es : List M.Rule) : Bool := M.within k 1 4 && (decide (es.length ≤ 12) && !es.any (fun r => !M.SidesOk k r))
def M.startK (k : Int) (es : List M.Rule) : Int := if M.startOk k es = true then k else 0
def M.startQ (k : Int) (es : List M.Rule) : List M.Rule := if M.startOk k es = true then es else []
def RetStart (sk : Int) (sq : List M.Rule) (so : Bool) (w : World) (x : Ending) (w' : World) : Prop :=
  ∃ A c, x = .returned (.tuple #[.agg #[.int .i64 sk, .slice none 0 0, .slice A sq.length c, .int .i64 0], .bool so]) ∧ Own w' w.heap.size 2 A sq.length (ruls sq) ∧ Below w.heap.size w w'
theorem start_no {k : Int} {es : List M.Rule} (h : M.startOk k es = false) : M.startK k es = 0 ∧ M.startQ k es = [] := ⟨if_neg (by rw [h]; simp), if_neg (by rw [h]; simp)⟩
theorem start_yes {k : Int} {es : List M.Rule} (h : M.startOk k es = true) : M.startK k es = k ∧ M.startQ k es = es := ⟨if_pos h, if_pos h⟩
theorem startOk_no1 {k : Int} {es : List M.Rule} (h : M.within k 1 4 = false) : M.startOk k es = false := by unfold M.startOk; rw [h]; rfl
theorem startOk_no2 {k : Int} {es : List M.Rule} (h : ¬ es.length ≤ 12) : M.startOk k es = false := by unfold M.startOk; rw [decide_eq_false h, Bool.false_and, Bool.and_false]
theorem startOk_yes {k : Int} {es : List M.Rule} (h1 : M.within k 1 4 = true) (h2 : es.length ≤ 12) : M.startOk k es = !es.any (fun r => !M.SidesOk k r) := by unfold M.startOk; rw [h1, decide_eq_true h2]; rfl
theorem ruls_one' (rs : List M.Rule) : ∀ u ∈ ruls rs, u.oneCell' = true := ruls_one rs rule2 fun r u hu => by
  simp [rule2] at hu
  rcases hu with rfl | rfl <;> simp [Value.oneCell']

set_option maxRecDepth 100000 in
set_option maxHeartbeats 1000000 in
theorem toRuleS_s (A : Option Addr) (c : Nat) (rs : List M.Rule) (w : World) (hA : Rd w 2 A rs.length (ruls rs)) (hl : rs.length ≤ 1048576) :
    Calls Try.prog 16 #[.slice A rs.length c] w fun e w' => e = .returned (.slice (some ⟨w.heap.size, 0, none⟩) rs.length rs.length) ∧ Own w' w.heap.size 2 (some ⟨w.heap.size, 0, none⟩) rs.length (ruls rs) ∧ Below w.heap.size w w' := by
  have HA := Lib.hid hA
  obtain ⟨n, hn⟩ : ∃ n, n = rs.length := ⟨_, rfl⟩
  have hnb : n ≤ 1048576 := by omega
  have HN := Lib.hid hn
  rw [← hn]
  clear hA hl hn
  go_enter Try.func16, Try.ntmps16
  go_wp2_with (at_make; refine make_law rfl _ rfl slRule rfl (by omega) ?_; intro zs w' hzl hown hb')
  obtain ⟨g, hg⟩ : ∃ g, g = w.heap.size := ⟨_, rfl⟩
  rw [← hg] at hown ⊢
  have HO := Lib.hid hown
  have HB := Lib.hid hb'
  have HL := Lib.hid hzl
  have HG := Lib.hid hg
  clear hown hb' hzl hg
  go_loopw [4] (fun i wr => ∃ k : Nat, k ≤ n ∧ i = .int .i64 k ∧ Own wr g 2 (some ⟨g, 0, none⟩) n (part rule2 rs zs 2 k) ∧ Below w.heap.size w wr) (fun i _ => n - (intOf i).toNat)
  case atStart => exact ⟨0, by omega, rfl, by rw [part_zero]; exact HO.out, HB.out⟩
  case round =>
    obtain ⟨k, hk, rfl, hown, hb⟩ := hrel
    by_cases hlt : k < n
    · obtain ⟨b, o, rfl, hz, hc, hd⟩ := (HA.out.below hb).ruleAt (k := k) (by have := HN.out; omega)
      have HP := Lib.hid (fun u v (h : rule2 rs[k] = [u, v]) => part2 (f := rule2) (rs := rs) (zs := zs) (fun _ => rfl) hz (by have h1 := HL.out; have h2 := HN.out; omega) h)
      have HO := Lib.hid hown
      have HB := Lib.hid hb
      clear hown hb
      generalize rs[k] = r at *
      obtain ⟨rl, rr⟩ := r
      simp only at hc hd
      go_wp2_with fail
      refine (toRule_c rl rr _).mono ?_
      rintro e w1 ⟨rfl, hb1⟩
      have HO1 := HO.out.below hb1
      obtain ⟨hgb, hcs, hfs, hset⟩ := HO1.at0 (by omega)
      have hlm : k * 2 + 1 < (part rule2 rs zs 2 k).length := by have := HO1.len; omega
      have hc1 := hcs (k * 2) _ (List.getElem?_eq_getElem (by omega))
      have hc2 := hcs (k * 2 + 1) _ (List.getElem?_eq_getElem hlm)
      have hf1 := hfs (k * 2)
      have hf2 := hfs (k * 2 + 1)
      have HS := Lib.hid (((hset (k * 2) (.string ⟨rl.toArray⟩)).at0 (by omega)).2.2.2 (k * 2 + 1) (.string ⟨rr.toArray⟩))
      have HT := Lib.hid (HB.out.trans (hb1.mono HB.out.size))
      have HGG := Lib.hid hgb
      generalize (part rule2 rs zs 2 k)[k * 2] = v1 at hc1
      generalize (part rule2 rs zs 2 k)[k * 2 + 1] = v2 at hc2
      clear hcs hfs hset HO1 hb1 hgb
      go_wp2_with fail
      go_roundw
      case rel => exact ⟨k + 1, by omega, by go_num, by have h1 := HS.out; rwa [HP.out _ _ rfl] at h1, (HT.out.setCell (by have := HG.out; simp; omega) _).setCell (by have := HG.out; simp; omega) _⟩
      case measure => simp [intOf]; omega
    · obtain rfl : k = n := by omega
      have HO := Lib.hid hown
      have HB := Lib.hid hb
      clear hown hb
      go_wp2
      go_ret
      have h1 := HO.out
      have h2 := HN.out
      subst h2
      rw [part_all HL.out] at h1
      have h3 := HG.out
      subst h3
      exact ⟨rfl, h1, HB.out⟩

set_option maxRecDepth 100000 in
set_option maxHeartbeats 1000000 in
theorem cloneRule_c (ad : Addr) (c : Nat) (rs : List M.Rule) (w : World) (hA : Rd w 2 (some ad) rs.length (ruls rs)) (hl : rs.length ≤ 1048576) :
    Calls Try.prog 70 #[.slice (some ad) rs.length c] w (RetRow 90 2 rs.length (ruls rs) w) := by
  have HA := Lib.hid (fun o => hA.below ((Below.refl w.heap.size w).alloc (Nat.le_refl _) o))
  have q22 := fun W => Lib.run_eql_slice_nil (P := Try.prog) W 24 _ (some ad) rs.length c 0 0 Try.underlying24
  clear hA
  go_enter Try.func70, Try.ntmps70
  go_wp2_with (at_builtin; refine push_many rfl _ _ rfl slRule rfl (World.ownsRow_lit w #[] 0 (Nat.le_refl _) (by simp [maxLen]) (by simp)) rfl (HA.out _) (ruls_one' rs) ((Below.refl _ _).alloc (Nat.le_refl _) _) rfl (by omega) ?_; intro A2 c2 w2 hown2 hb2)
  have HO := Lib.hid hown2
  have HB := Lib.hid hb2
  clear hown2 hb2
  go_ret
  exact ⟨A2, c2, by simp, by simpa using HO.out, HB.out⟩
set_option maxRecDepth 100000 in
set_option maxHeartbeats 2000000 in
theorem StartWork1_c (k : Int) (b : Nat) (r : M.Rule) (w : World) (h0 : w.cell? ⟨b, 0, none⟩ = some (.int .i64 k)) (hr : r.left.length ≤ 1048576 ∧ r.right.length ≤ 1048576) :
    Calls Try.prog 68 #[.agg #[.string ⟨r.left.toArray⟩, .string ⟨r.right.toArray⟩], .pointer (some ⟨b, 0, none⟩)] w fun e w' => e = .returned (.bool (!M.SidesOk k r)) ∧ Below w.heap.size w w' := by
  obtain ⟨rl, rr⟩ := r
  have h1 := Lib.hid (fun W => impl_SidesOk_c k rl rr W hr.1 hr.2)
  have k0 := allocKeep1 h0
  generalize M.SidesOk k ⟨rl, rr⟩ = x at *
  clear hr
  go_enter Try.func68, Try.ntmps68
  go_wp2_with fail
  refine (h1.out _).mono ?_
  rintro e w1 ⟨rfl, hb⟩
  go_wp2_with fail
  go_ret
  exact ⟨rfl, below_alloc1 hb⟩

abbrev RuleStartWork1C (b : Nat) (p : M.Rule → Bool) (rs : List M.Rule) (w : World) : Prop := ∀ W, Below w.heap.size w W → ∀ r ∈ rs, Calls Try.prog 68 #[.agg #[.string ⟨r.left.toArray⟩, .string ⟨r.right.toArray⟩], .pointer (some ⟨b, 0, none⟩)] W fun e w' => e = .returned (.bool (p r)) ∧ Below W.heap.size W w'
set_option maxRecDepth 100000 in
set_option maxHeartbeats 2000000 in
theorem IndexFuncStartWork1_c (b0 : Nat) (p : M.Rule → Bool) (A : Option Addr) (c : Nat) (rs : List M.Rule) (w : World) (hA : Rd w 2 A rs.length (ruls rs)) (hl : rs.length ≤ 1048576) (hc : RuleStartWork1C b0 p rs w) :
    Calls Try.prog 97 #[.slice A rs.length c, .func (.func 68) #[] #[.pointer (some ⟨b0, 0, none⟩)]] w fun e w' => (∃ z : Int, e = .returned (.int .i64 z) ∧ decide (0 ≤ z) = rs.any p) ∧ Below w.heap.size w w' := by
  have HA := Lib.hid hA
  have HCC := Lib.hid hc
  obtain ⟨q, hq⟩ : ∃ q, q = rs.any p := ⟨_, rfl⟩
  rw [← hq]
  have HQ := Lib.hid hq
  obtain ⟨m, hm⟩ : ∃ m, m = rs.length := ⟨_, rfl⟩
  have hmb : m ≤ 1048576 := by omega
  rw [← hm]
  have HM := Lib.hid hm
  clear hA hc hq hm hl
  go_enter Try.func97, Try.ntmps97
  go_wp2
  go_loopw [8] (fun i wr => ∃ (k : Nat), k ≤ m ∧ i = .int .i64 k ∧ (rs.drop k).any p = q ∧ Below w.heap.size w wr) (fun i _ => m - (intOf i).toNat)
  case atStart => exact ⟨0, by omega, rfl, by rw [List.drop_zero, HQ.out], Below.refl _ _⟩
  case round =>
    obtain ⟨k, hk, rfl, hf, hb⟩ := hrel
    have HB := Lib.hid hb
    have HF := Lib.hid hf
    clear hb hf
    by_cases hlt : k < m
    · obtain ⟨b, o, rfl, hz, hc1, hc2⟩ := (HA.out.below HB.out).ruleAt (k := k) (by have := HM.out; omega)
      have hd : (rs.drop k).any p = (p rs[k] || (rs.drop (k + 1)).any p) := by rw [List.drop_eq_getElem_cons hz, List.any_cons]
      have HC := Lib.hid (HCC.out wr HB.out rs[k] (List.getElem_mem hz))
      have HF2 := Lib.hid (hd.symm.trans HF.out)
      clear hd
      generalize rs[k] = r at *
      obtain ⟨rl, rr⟩ := r
      simp only at hc1 hc2 HC
      generalize p ⟨rl, rr⟩ = v at *
      cases v
      case true =>
        go_wp2_with fail
        refine HC.out.mono ?_
        rintro e w1 ⟨rfl, hb1⟩
        go_wp2_with fail
        go_ret
        exact ⟨⟨k, rfl, by have := HF2.out; rw [← this]; simp⟩, HB.out.trans (hb1.mono HB.out.size)⟩
      case false =>
        go_wp2_with fail
        refine HC.out.mono ?_
        rintro e w1 ⟨rfl, hb1⟩
        go_wp2_with fail
        go_roundw
        case rel => exact ⟨k + 1, by omega, by go_num, by have := HF2.out; rw [← this]; simp, HB.out.trans (hb1.mono HB.out.size)⟩
        case measure => simp [intOf] <;> omega
    · have e : q = false := by have := HF.out; rw [List.drop_eq_nil_of_le (by have := HM.out; omega)] at this; exact this.symm
      go_wp2
      go_ret
      exact ⟨⟨-1, rfl, by rw [e]; rfl⟩, HB.out⟩
set_option maxRecDepth 100000 in
set_option maxHeartbeats 1000000 in
theorem ContainsFuncStartWork1_c (b0 : Nat) (p : M.Rule → Bool) (A : Option Addr) (c : Nat) (rs : List M.Rule) (w : World) (hA : Rd w 2 A rs.length (ruls rs)) (hl : rs.length ≤ 1048576) (hc : RuleStartWork1C b0 p rs w) :
    Calls Try.prog 67 #[.slice A rs.length c, .func (.func 68) #[] #[.pointer (some ⟨b0, 0, none⟩)]] w fun e w' => e = .returned (.bool (rs.any p)) ∧ Below w.heap.size w w' := by
  have h1 := Lib.hid (IndexFuncStartWork1_c b0 p A c rs w hA hl hc)
  clear hA hc
  generalize rs.any p = q at *
  go_enter Try.func67, Try.ntmps67
  go_wp2_with fail
  refine h1.out.mono ?_
  rintro e w1 ⟨⟨z, rfl, hz⟩, hb⟩
  go_wp2_with fail
  go_ret
  exact ⟨rfl, hb⟩

set_option maxRecDepth 100000 in
set_option maxHeartbeats 4000000 in
theorem spec_StartWork_c (k : Int) (ad : Addr) (c : Nat) (es : List M.Rule) (w : World) (hA : Rd w 2 (some ad) es.length (ruls es)) (hl : es.length ≤ 1048576) (hs : ∀ r ∈ es, r.left.length ≤ 1048576 ∧ r.right.length ≤ 1048576) :
    Calls Try.prog 15 #[.int .i64 k, .slice (some ad) es.length c] w (RetStart (M.startK k es) (M.startQ k es) (M.startOk k es) w) := by
  have h1 := Lib.hid (fun W => l01In_c k 1 4 W)
  have HA := Lib.hid hA
  have HS := Lib.hid hs
  clear hA hs
  obtain ⟨x, hx⟩ : ∃ x, x = M.within k 1 4 := ⟨_, rfl⟩
  rw [← hx] at h1
  cases x
  case false =>
    have h0 := startOk_no1 (es := es) hx.symm
    rw [(start_no h0).1, (start_no h0).2, h0]
    clear hx h0
    go_enter Try.func15, Try.ntmps15
    go_wp2_with fail
    refine (h1.out _).mono ?_
    rintro e w1 ⟨rfl, rfl⟩
    go_wp2_with fail
    refine bodyPost_ret (v := .tuple #[.agg #[.int .i64 0, .slice none 0 0, .slice none 0 0, .int .i64 0], .bool false]) (by simp [results, Try.results15, go_sem]) rfl ⟨none, 0, rfl, ⟨rfl, fun h => absurd h (by simp)⟩, (by repeat (first | exact Below.refl _ _ | refine Below.setCell ?_ (by simp <;> omega) _ | refine Below.alloc ?_ (by simp <;> omega) _ | refine below_drewN ?_ _ | refine Below.drew ?_))⟩
  case true =>
  by_cases h12 : es.length ≤ 12
  case neg =>
    have h0 := startOk_no2 (k := k) h12
    rw [(start_no h0).1, (start_no h0).2, h0]
    have h12' : (12 : Int) < (es.length : Int) := by omega
    clear hx h0
    go_enter Try.func15, Try.ntmps15
    go_wp2_with fail
    refine (h1.out _).mono ?_
    rintro e w1 ⟨rfl, rfl⟩
    go_wp2_with fail
    refine bodyPost_ret (v := .tuple #[.agg #[.int .i64 0, .slice none 0 0, .slice none 0 0, .int .i64 0], .bool false]) (by simp [results, Try.results15, go_sem]) rfl ⟨none, 0, rfl, ⟨rfl, fun h => absurd h (by simp)⟩, (by repeat (first | exact Below.refl _ _ | refine Below.setCell ?_ (by simp <;> omega) _ | refine Below.alloc ?_ (by simp <;> omega) _ | refine below_drewN ?_ _ | refine Below.drew ?_))⟩
  case pos =>
  have h12' : ¬ ((12 : Int) < (es.length : Int)) := by omega
  have h0 := startOk_yes (es := es) hx.symm h12
  obtain ⟨q, hq⟩ : ∃ q, q = es.any (fun r => !M.SidesOk k r) := ⟨_, rfl⟩
  rw [← hq] at h0
  have HQ := Lib.hid hq
  have HNO := Lib.hid (fun (h : q = true) => show M.startK k es = 0 ∧ M.startQ k es = [] ∧ M.startOk k es = false from ⟨(start_no (by rw [h0, h]; rfl)).1, (start_no (by rw [h0, h]; rfl)).2, by rw [h0, h]; rfl⟩)
  have HYES := Lib.hid (fun (h : q = false) => show M.startK k es = k ∧ M.startQ k es = es ∧ M.startOk k es = true from ⟨(start_yes (by rw [h0, h]; rfl)).1, (start_yes (by rw [h0, h]; rfl)).2, by rw [h0, h]; rfl⟩)
  obtain ⟨sk, hsk⟩ : ∃ sk, sk = M.startK k es := ⟨_, rfl⟩
  obtain ⟨sq, hsq⟩ : ∃ sq, sq = M.startQ k es := ⟨_, rfl⟩
  obtain ⟨so, hso⟩ : ∃ so, so = M.startOk k es := ⟨_, rfl⟩
  rw [← hsk, ← hsq, ← hso] at HNO HYES
  rw [← hsk, ← hsq, ← hso]
  obtain ⟨n, hn⟩ : ∃ n, n = es.length := ⟨_, rfl⟩
  have HN := Lib.hid hn
  have hnb : n ≤ 12 := by omega
  rw [← hn] at HA h12' ⊢
  clear hx hq h0 hsk hsq hso hn h12 hl
  go_enter Try.func15, Try.ntmps15
  go_wp2_with fail
  refine (h1.out _).mono ?_
  rintro e w1 ⟨rfl, rfl⟩
  go_wp2_with fail
  obtain ⟨w1, hw1⟩ : ∃ w1 : World, w1 = w.alloc (.cells #[.int .i64 0, .slice none 0 0, .slice none 0 0, .int .i64 0] 28) := ⟨_, rfl⟩
  have D0 := Lib.hid (show w1.cell? ⟨w.heap.size, 0, none⟩ = some (.int .i64 0) by rw [hw1]; simp [go_sem])
  have F0 := Lib.hid (show w1.frozen? ⟨w.heap.size, 0, none⟩ = false by rw [hw1]; simp [go_sem])
  have D1 := Lib.hid (show w1.cell? ⟨w.heap.size, 1, none⟩ = some (.slice none 0 0) by rw [hw1]; simp [go_sem])
  have F1 := Lib.hid (show w1.frozen? ⟨w.heap.size, 1, none⟩ = false by rw [hw1]; simp [go_sem])
  have D2 := Lib.hid (show w1.cell? ⟨w.heap.size, 2, none⟩ = some (.slice none 0 0) by rw [hw1]; simp [go_sem])
  have F2 := Lib.hid (show w1.frozen? ⟨w.heap.size, 2, none⟩ = false by rw [hw1]; simp [go_sem])
  have D3 := Lib.hid (show w1.cell? ⟨w.heap.size, 3, none⟩ = some (.int .i64 0) by rw [hw1]; simp [go_sem])
  have F3 := Lib.hid (show w1.frozen? ⟨w.heap.size, 3, none⟩ = false by rw [hw1]; simp [go_sem])
  have HB0 := Lib.hid (show Below w.heap.size w w1 by rw [hw1]; exact (Below.refl _ _).alloc (Nat.le_refl _) _)
  have HS1 := Lib.hid (show w.heap.size + 1 ≤ w1.heap.size by rw [hw1]; simp)
  have HA1 := Lib.hid (HA.out.below HB0.out)
  rw [← hw1]
  clear hw1
  go_loopw [19] (fun z wr => ∃ j : Nat, j ≤ n ∧ z = .int .i64 j ∧ (es.drop j).any (fun r => !M.SidesOk k r) = q ∧ Below w1.heap.size w1 wr) (fun z _ => n - (intOf z).toNat)
  case atStart => exact ⟨0, by omega, rfl, by rw [List.drop_zero, HQ.out], Below.refl _ _⟩
  case round =>
    obtain ⟨j, hj, rfl, hf, hb⟩ := hrel
    have HB := Lib.hid hb
    have hws := Nat.le_trans HS1.out hb.size
    by_cases hlt : j < n
    case neg =>
      have e : q = false := by rw [List.drop_eq_nil_of_le (by have := HN.out; omega)] at hf; exact hf.symm
      obtain ⟨e1, e2, e3⟩ := HYES.out e
      have d0 := cellKeep hb D0.out
      have f0 := frozenKeep hb D0.out F0.out
      have d1 := cellKeep hb D1.out
      have f1 := frozenKeep hb D1.out F1.out
      have d2 := cellKeep hb D2.out
      have f2 := frozenKeep hb D2.out F2.out
      have d3 := cellKeep hb D3.out
      have f3 := frozenKeep hb D3.out F3.out
      have HD := Lib.hid (And.intro d0 (And.intro d1 (And.intro d2 d3)))
      have HFR := Lib.hid (And.intro f0 (And.intro f1 (And.intro f2 f3)))
      have HA2 := Lib.hid (fun o => (HA1.out.below HB.out).below ((Below.refl wr.heap.size wr).alloc (Nat.le_refl _) o))
      have HE := Lib.hid (And.intro e1 (And.intro e2 e3))
      have hle := HN.out
      clear hf hb d0 d1 d2 d3 f0 f1 f2 f3 e e1 e2 e3
      go_wp2_with (at_builtin; refine push_many rfl _ _ rfl slRule rfl (World.ownsRow_lit wr #[] 0 (Nat.le_refl _) (by simp [maxLen]) (by simp)) rfl (HA2.out _) (ruls_one' es) ((Below.refl _ _).alloc (Nat.le_refl _) _) rfl (by omega) ?_; intro A2 c2 w2 hown2 hb2; obtain ⟨d0, d1, d2, d3⟩ := HD.out; obtain ⟨f0, f1, f2, f3⟩ := HFR.out; replace f0 := frozenKeep hb2 d0 f0; replace f1 := frozenKeep hb2 d1 f1; replace f2 := frozenKeep hb2 d2 f2; replace f3 := frozenKeep hb2 d3 f3; replace d0 := cellKeep hb2 d0; replace d1 := cellKeep hb2 d1; replace d2 := cellKeep hb2 d2; replace d3 := cellKeep hb2 d3; have HO2 := Lib.hid hown2; have HB2 := Lib.hid hb2; clear hown2 hb2)
      obtain ⟨e1, e2, e3⟩ := HE.out
      have HOO := Lib.hid ((Own.of_row HO2.out).mono (base' := w.heap.size + 1) (by omega))
      rw [Nat.zero_add] at HOO
      refine bodyPost_ret (v := .tuple #[.agg #[.int .i64 k, .slice none 0 0, .slice A2 n c2, .int .i64 0], .bool true]) ?_ rfl ⟨A2, c2, by rw [e1, e2, e3, ← hle], ?_, ?_⟩
      · simp [results, Try.results15, go_sem, cell_set_ne, set_some, isSome_keep, some_of d0, some_of d1, some_of d2, some_of d3]
        exact hle.symm
      · rw [e2, ← hle]
        exact (((((HOO.out).setLow (by omega)).setLow (by omega)).setLow (by omega)).setLow (by omega)).mono (by omega)
      · exact ((((HB0.out.trans ((HB.out.trans (HB2.out.mono HB.out.size)).mono HB0.out.size)).setCell (by simp <;> omega) _).setCell (by simp <;> omega) _).setCell (by simp <;> omega) _).setCell (by simp <;> omega) _
    case pos =>
      obtain ⟨b, o, hadd, hz, hc1, hc2⟩ := (HA1.out.below hb).ruleAt (k := j) hlt
      injection hadd with hadd
      subst hadd
      have hd : (es.drop j).any (fun r => !M.SidesOk k r) = (!M.SidesOk k es[j] || (es.drop (j + 1)).any (fun r => !M.SidesOk k r)) := by rw [List.drop_eq_getElem_cons hz, List.any_cons]
      have hsz := HS.out es[j] (List.getElem_mem hz)
      have HF2 := Lib.hid (hd.symm.trans hf)
      generalize es[j] = r at *
      obtain ⟨rl, rr⟩ := r
      simp only at hc1 hc2 hsz
      have HC := Lib.hid (fun W => spec_SidesOk_c k rl rr W hsz.1 hsz.2)
      have d0 := cellKeep hb D0.out
      have f0 := frozenKeep hb D0.out F0.out
      have d1 := cellKeep hb D1.out
      have f1 := frozenKeep hb D1.out F1.out
      have d2 := cellKeep hb D2.out
      have f2 := frozenKeep hb D2.out F2.out
      have d3 := cellKeep hb D3.out
      have f3 := frozenKeep hb D3.out F3.out
      have HD := Lib.hid (And.intro d0 (And.intro d1 (And.intro d2 d3)))
      have HFR := Lib.hid (And.intro f0 (And.intro f1 (And.intro f2 f3)))
      generalize M.SidesOk k ⟨rl, rr⟩ = x at *
      clear hd hf hb hsz d0 d1 d2 d3 f0 f1 f2 f3
      cases x
      case true =>
        have HE := Lib.hid (show (es.drop (j + 1)).any (fun r => !M.SidesOk k r) = q by have h := HF2.out; simpa using h)
        go_wp2_with fail
        refine (HC.out _).mono ?_
        rintro e w2 ⟨rfl, hb2⟩
        go_wp2_with fail
        go_roundw
        case rel => exact ⟨j + 1, by omega, by go_num, HE.out, HB.out.trans ((below_alloc1 hb2).mono HB.out.size)⟩
        case measure => simp [intOf] <;> omega
      case false =>
        obtain ⟨e1, e2, e3⟩ := HNO.out (show q = true by rw [← HF2.out]; rfl)
        have HE := Lib.hid (And.intro e1 (And.intro e2 e3))
        clear e1 e2 e3
        go_wp2_with fail
        refine (HC.out _).mono ?_
        rintro e w2 ⟨rfl, hb2⟩
        have hb3 := below_alloc1 hb2
        obtain ⟨d0, d1, d2, d3⟩ := HD.out
        obtain ⟨f0, f1, f2, f3⟩ := HFR.out
        replace f0 := frozenKeep hb3 d0 f0
        replace f1 := frozenKeep hb3 d1 f1
        replace f2 := frozenKeep hb3 d2 f2
        replace f3 := frozenKeep hb3 d3 f3
        replace d0 := cellKeep hb3 d0
        replace d1 := cellKeep hb3 d1
        replace d2 := cellKeep hb3 d2
        replace d3 := cellKeep hb3 d3
        have HB3 := Lib.hid hb3
        clear hb2 hb3
        go_wp2_with fail
        obtain ⟨e1, e2, e3⟩ := HE.out
        refine bodyPost_ret (v := .tuple #[.agg #[.int .i64 0, .slice none 0 0, .slice none 0 0, .int .i64 0], .bool false]) ?_ rfl ⟨none, 0, by rw [e1, e2, e3]; rfl, by rw [e2]; exact ⟨rfl, fun h => absurd h (by simp)⟩, ?_⟩
        · simp [results, Try.results15, go_sem, cell_set_ne, set_some, isSome_keep, some_of d0, some_of d1, some_of d2, some_of d3]
        · exact ((((HB0.out.trans ((HB.out.trans (HB3.out.mono HB.out.size)).mono HB0.out.size)).setCell (by simp <;> omega) _).setCell (by simp <;> omega) _).setCell (by simp <;> omega) _).setCell (by simp <;> omega) _
set_option maxRecDepth 100000 in
set_option maxHeartbeats 4000000 in
theorem impl_StartWork_c (k : Int) (ad : Addr) (c : Nat) (es : List M.Rule) (w : World) (hA : Rd w 2 (some ad) es.length (ruls es)) (hl : es.length ≤ 1048576) (hs : ∀ r ∈ es, r.left.length ≤ 1048576 ∧ r.right.length ≤ 1048576) :
    Calls Try.prog 17 #[.int .i64 k, .slice (some ad) es.length c] w (RetStart (M.startK k es) (M.startQ k es) (M.startOk k es) w) := by
  have h1 := Lib.hid (fun W => within_c k 1 4 W)
  have h2 := Lib.hid (fun b0 W h hc => ContainsFuncStartWork1_c b0 (fun r => !M.SidesOk k r) (some ad) c es W h hl hc)
  have h3 := Lib.hid (fun W h => cloneRule_c ad c es W h hl)
  have HA := Lib.hid hA
  have HS := Lib.hid hs
  have hmf : ∀ (fn : Fn) (first cap : Array Value) (w : World), (Instr.makeFunc fn first cap).run Try.prog w = .ok (.func fn first cap) w := fun _ _ _ _ => rfl
  clear hA hs
  obtain ⟨x, hx⟩ : ∃ x, x = M.within k 1 4 := ⟨_, rfl⟩
  rw [← hx] at h1
  cases x
  case false =>
    have h0 := startOk_no1 (es := es) hx.symm
    rw [(start_no h0).1, (start_no h0).2, h0]
    clear hx h0
    go_enter Try.func17, Try.ntmps17
    go_wp2_with fail
    refine (h1.out _).mono ?_
    rintro e w1 ⟨rfl, rfl⟩
    go_wp2_with fail
    refine bodyPost_ret (v := .tuple #[.agg #[.int .i64 0, .slice none 0 0, .slice none 0 0, .int .i64 0], .bool false]) (by simp [results, Try.results17, go_sem]) rfl ⟨none, 0, rfl, ⟨rfl, fun h => absurd h (by simp)⟩, (by repeat (first | exact Below.refl _ _ | refine Below.setCell ?_ (by simp <;> omega) _ | refine Below.alloc ?_ (by simp <;> omega) _ | refine below_drewN ?_ _ | refine Below.drew ?_))⟩
  case true =>
  by_cases h12 : es.length ≤ 12
  case neg =>
    have h0 := startOk_no2 (k := k) h12
    rw [(start_no h0).1, (start_no h0).2, h0]
    have h12' : (12 : Int) < (es.length : Int) := by omega
    clear hx h0
    go_enter Try.func17, Try.ntmps17
    go_wp2_with fail
    refine (h1.out _).mono ?_
    rintro e w1 ⟨rfl, rfl⟩
    go_wp2_with fail
    refine bodyPost_ret (v := .tuple #[.agg #[.int .i64 0, .slice none 0 0, .slice none 0 0, .int .i64 0], .bool false]) (by simp [results, Try.results17, go_sem]) rfl ⟨none, 0, rfl, ⟨rfl, fun h => absurd h (by simp)⟩, (by repeat (first | exact Below.refl _ _ | refine Below.setCell ?_ (by simp <;> omega) _ | refine Below.alloc ?_ (by simp <;> omega) _ | refine below_drewN ?_ _ | refine Below.drew ?_))⟩
  case pos =>
  have h12' : ¬ ((12 : Int) < (es.length : Int)) := by omega
  have h0 := startOk_yes (es := es) hx.symm h12
  obtain ⟨q, hq⟩ : ∃ q, q = es.any (fun r => !M.SidesOk k r) := ⟨_, rfl⟩
  rw [← hq] at h0 h2
  clear hx hq h12
  cases q
  case true =>
    have h0 : M.startOk k es = false := h0
    rw [(start_no h0).1, (start_no h0).2, h0]
    clear h0
    go_enter Try.func17, Try.ntmps17
    go_wp2_with fail
    refine (h1.out _).mono ?_
    rintro e w1 ⟨rfl, rfl⟩
    go_wp2_with fail
    refine (h2.out w.heap.size _ (HA.out.below (by repeat (first | exact Below.refl _ _ | refine Below.setCell ?_ (by simp <;> omega) _ | refine Below.alloc ?_ (by simp <;> omega) _ | refine below_drewN ?_ _ | refine Below.drew ?_))) (fun W hW r hr => StartWork1_c k w.heap.size r W (cellKeep hW (by simp [go_sem])) (HS.out r hr))).mono ?_
    rintro e w1 ⟨rfl, hb⟩
    have d0 : w1.cell? ⟨w.heap.size + 1, 0, none⟩ = some (.int .i64 0) := cellKeep hb (by simp [go_sem])
    have f0 : w1.frozen? ⟨w.heap.size + 1, 0, none⟩ = false := ((bcell hb).2 _ _ (by simp)).trans (by simp [go_sem])
    have d1 : w1.cell? ⟨w.heap.size + 1, 1, none⟩ = some (.slice none 0 0) := cellKeep hb (by simp [go_sem])
    have f1 : w1.frozen? ⟨w.heap.size + 1, 1, none⟩ = false := ((bcell hb).2 _ _ (by simp)).trans (by simp [go_sem])
    have d2 : w1.cell? ⟨w.heap.size + 1, 2, none⟩ = some (.slice none 0 0) := cellKeep hb (by simp [go_sem])
    have f2 : w1.frozen? ⟨w.heap.size + 1, 2, none⟩ = false := ((bcell hb).2 _ _ (by simp)).trans (by simp [go_sem])
    have d3 : w1.cell? ⟨w.heap.size + 1, 3, none⟩ = some (.int .i64 0) := cellKeep hb (by simp [go_sem])
    have f3 : w1.frozen? ⟨w.heap.size + 1, 3, none⟩ = false := ((bcell hb).2 _ _ (by simp)).trans (by simp [go_sem])
    have HB := Lib.hid (below_alloc2 hb)
    clear hb
    go_wp2_with fail
    refine bodyPost_ret (v := .tuple #[.agg #[.int .i64 0, .slice none 0 0, .slice none 0 0, .int .i64 0], .bool false]) ?_ rfl ⟨none, 0, rfl, ⟨rfl, fun h => absurd h (by simp)⟩, ?_⟩
    · simp [results, Try.results17, go_sem, cell_set_ne, set_some, isSome_keep, some_of d0, some_of d1, some_of d2, some_of d3]
    · exact (((HB.out.setCell (by simp <;> omega) _).setCell (by simp <;> omega) _).setCell (by simp <;> omega) _).setCell (by simp <;> omega) _
  case false =>
    have h0 : M.startOk k es = true := h0
    rw [(start_yes h0).1, (start_yes h0).2, h0]
    clear h0
    go_enter Try.func17, Try.ntmps17
    go_wp2_with fail
    refine (h1.out _).mono ?_
    rintro e w1 ⟨rfl, rfl⟩
    go_wp2_with fail
    refine (h2.out w.heap.size _ (HA.out.below (by repeat (first | exact Below.refl _ _ | refine Below.setCell ?_ (by simp <;> omega) _ | refine Below.alloc ?_ (by simp <;> omega) _ | refine below_drewN ?_ _ | refine Below.drew ?_))) (fun W hW r hr => StartWork1_c k w.heap.size r W (cellKeep hW (by simp [go_sem])) (HS.out r hr))).mono ?_
    rintro e w1 ⟨rfl, hb⟩
    have d0 : w1.cell? ⟨w.heap.size + 1, 0, none⟩ = some (.int .i64 0) := cellKeep hb (by simp [go_sem])
    have f0 : w1.frozen? ⟨w.heap.size + 1, 0, none⟩ = false := ((bcell hb).2 _ _ (by simp)).trans (by simp [go_sem])
    have d1 : w1.cell? ⟨w.heap.size + 1, 1, none⟩ = some (.slice none 0 0) := cellKeep hb (by simp [go_sem])
    have f1 : w1.frozen? ⟨w.heap.size + 1, 1, none⟩ = false := ((bcell hb).2 _ _ (by simp)).trans (by simp [go_sem])
    have d2 : w1.cell? ⟨w.heap.size + 1, 2, none⟩ = some (.slice none 0 0) := cellKeep hb (by simp [go_sem])
    have f2 : w1.frozen? ⟨w.heap.size + 1, 2, none⟩ = false := ((bcell hb).2 _ _ (by simp)).trans (by simp [go_sem])
    have d3 : w1.cell? ⟨w.heap.size + 1, 3, none⟩ = some (.int .i64 0) := cellKeep hb (by simp [go_sem])
    have f3 : w1.frozen? ⟨w.heap.size + 1, 3, none⟩ = false := ((bcell hb).2 _ _ (by simp)).trans (by simp [go_sem])
    have k0 : w1.cell? ⟨w.heap.size, 0, none⟩ = some (.int .i64 k) := cellKeep hb (by simp [go_sem])
    have HB := Lib.hid (below_alloc2 hb)
    have HS1 := Lib.hid (show w.heap.size + 2 ≤ w1.heap.size by have h := hb.size; (try simp at h); omega)
    have HD := Lib.hid (And.intro d0 (And.intro d1 (And.intro d2 (And.intro d3 k0))))
    have HFR := Lib.hid (And.intro f0 (And.intro f1 (And.intro f2 f3)))
    have HA1 := Lib.hid (HA.out.below HB.out)
    clear hb d0 d1 d2 d3 f0 f1 f2 f3
    go_wp2_with fail
    go_region_with (go_at_call 70; refine (h3.out _ (HA1.out.below (by first | exact (Below.refl _ _).drew | exact Below.refl _ _))).mono ?_; rintro e wc ⟨Ac, cc, rfl, hown, hbc⟩; have d0 := cellKeep hbc HD.out.1; have d1 := cellKeep hbc HD.out.2.1; have d2 := cellKeep hbc HD.out.2.2.1; have d3 := cellKeep hbc HD.out.2.2.2.1; have kk := cellKeep hbc HD.out.2.2.2.2; have f0 := frozenKeep hbc HD.out.1 HFR.out.1; have f1 := frozenKeep hbc HD.out.2.1 HFR.out.2.1; have f2 := frozenKeep hbc HD.out.2.2.1 HFR.out.2.2.1; have f3 := frozenKeep hbc HD.out.2.2.2.1 HFR.out.2.2.2)
    all_goals
      have HO := Lib.hid (Own.of_row hown)
      have HBC := Lib.hid hbc
      clear hown hbc
      try go_wp2_with fail
      refine bodyPost_ret (v := .tuple #[.agg #[.int .i64 k, .slice none 0 0, .slice Ac es.length cc, .int .i64 0], .bool true]) ?_ rfl ⟨Ac, cc, rfl, ?_, ?_⟩
      · simp [results, Try.results17, go_sem, cell_set_ne, set_some, isSome_keep, some_of d0, some_of d1, some_of d2, some_of d3]
      · exact (((((HO.out.mono (base' := w.heap.size + 2) (by have h := HS1.out; first | exact h | (simp; omega))).setLow (by omega)).setLow (by omega)).setLow (by omega)).setLow (by omega)).mono (by omega)
      · exact ((((HB.out.trans ((Below.drew (Below.refl w1.heap.size w1)).trans HBC.out |>.mono HB.out.size)).setCell (by simp <;> omega) _).setCell (by simp <;> omega) _).setCell (by simp <;> omega) _).setCell (by simp <;> omega) _

end Go.Proofs.Ytoijojdegohknaa
