/-
  Contracts of IdempotentsOf.
  Conditions: at most 2^20 entries.
-/
import Derived.Test.YtgcmdebkgkepoaaThose
namespace Go.Proofs.Ytgcmdebkgkepoaa
open Go.RowKit
set_option linter.unusedVariables false

def M.idem (n : Nat) (xs : List Int) (i : Nat) : Bool := decide (M.tI n xs (i : Nat) (i : Nat) = (i : Int))
def M.IdempotentsOf (k : Int) (xs : List Int) : List Int := M.those k xs (M.idem k.toNat xs)
theorem idempotents_len (k : Int) (xs : List Int) : (M.IdempotentsOf k xs).length ≤ 40 := by
  unfold M.IdempotentsOf M.those
  split
  · rename_i h
    have h1 := (tableOk_of h).1
    exact Nat.le_trans (M.sel_len _ _) (by omega)
  · simp
set_option maxRecDepth 100000 in
set_option maxHeartbeats 1000000 in
theorem idem1_c (n : Nat) (A : Option Addr) (c : Nat) (xs : List Int) (bt i : Nat) (w : World) (hn : n ≤ 40) (hl : xs.length = n * n) (hi : i < n) (h0 : w.cell? ⟨bt, 0, none⟩ = some (.int .i64 n)) (h1 : w.cell? ⟨bt, 1, none⟩ = some (.slice A xs.length c)) (hA : Rd w 1 A xs.length (ints xs)) :
    Calls Try.prog 62 #[.int .i64 i, .pointer (some ⟨bt, 0, none⟩)] w fun e w' => e = .returned (.bool (M.idem n xs i)) ∧ Below w.heap.size w w' := by
  have h3 := Lib.hid (fun W h => times_c n A c xs i i W h hn hl (by omega) (by omega))
  have HA := Lib.hid hA
  unfold M.idem
  clear hA hl
  by_cases he : M.tI n xs (i : Nat) (i : Nat) = (i : Int)
  all_goals
    first | (rw [decide_eq_true he]; have he' : (M.tI n xs (i : Nat) (i : Nat) == (i : Int)) = true := by rw [beq_iff_eq]; exact he) | (rw [decide_eq_false he]; have he' : (M.tI n xs (i : Nat) (i : Nat) == (i : Int)) = false := by rw [beq_eq_false_iff_ne]; exact he)
    generalize M.tI n xs (i : Nat) (i : Nat) = z at *
    clear he
    go_enter Try.func62, Try.ntmps62
    go_wp2_with fail
    refine (h3.out _ HA.out).mono ?_
    rintro e w1 ⟨rfl, hb⟩
    go_wp2_with fail
    go_ret
    exact ⟨rfl, hb⟩
set_option maxRecDepth 100000 in
set_option maxHeartbeats 1000000 in
theorem idemThose1_c (n : Nat) (A : Option Addr) (c : Nat) (xs : List Int) (b bt i : Nat) (w : World) (hn : n ≤ 40) (hl : xs.length = n * n) (hi : i < n) (hf : w.cell? ⟨b, 0, none⟩ = some (.func (.func 62) #[] #[.pointer (some ⟨bt, 0, none⟩)])) (h0 : w.cell? ⟨bt, 0, none⟩ = some (.int .i64 n)) (h1 : w.cell? ⟨bt, 1, none⟩ = some (.slice A xs.length c)) (hA : Rd w 1 A xs.length (ints xs)) :
    Calls Try.prog 93 #[.int .i64 i, .pointer (some ⟨b, 0, none⟩)] w fun e w' => e = .returned (.bool (!M.idem n xs i)) ∧ Below w.heap.size w w' := by
  have h3 := Lib.hid (idem1_c n A c xs bt i w hn hl hi h0 h1 hA)
  generalize M.idem n xs i = v at *
  clear hA hl h0 h1
  go_enter Try.func93, Try.ntmps93
  go_wp2_with fail
  refine h3.out.mono ?_
  rintro e w1 ⟨rfl, hb⟩
  go_wp2_with fail
  go_ret
  exact ⟨rfl, hb⟩
set_option maxRecDepth 100000 in
set_option maxHeartbeats 1000000 in
theorem impl_IdempotentsOf_c (k : Int) (A : Option Addr) (c : Nat) (xs : List Int) (w : World) (hA : Rd w 1 A xs.length (ints xs)) (hl : xs.length ≤ 1048576) :
    Calls Try.prog 29 #[.agg #[.int .i64 k, .slice A xs.length c]] w (RetRd (fun A c => .slice A (M.IdempotentsOf k xs).length c) 1 (M.IdempotentsOf k xs).length (ints (M.IdempotentsOf k xs)) w) := by
  unfold M.IdempotentsOf
  have HT := Lib.hid (fun W h bt hc => those_c k A c xs (.func 62) #[.pointer (some ⟨bt, 0, none⟩)] (M.idem k.toNat xs) W h hl hc)
  have HA := Lib.hid hA
  have HP := Lib.hid (fun (o : Obj) => (Below.refl w.heap.size w).alloc (Nat.le_refl _) o)
  have HL := Lib.hid hl
  generalize hq : M.those k xs (M.idem k.toNat xs) = q at *
  clear hA hl hq
  have hmf : ∀ (fn : Fn) (first cap : Array Value) (w : World), (Instr.makeFunc fn first cap).run Try.prog w = .ok (.func fn first cap) w := fun _ _ _ _ => rfl
  go_enter Try.func29, Try.ntmps29
  go_wp2_with fail
  refine (HT.out _ (HA.out.below (HP.out _)) w.heap.size (fun htq b W hW hf i hi => ?_)).mono ?_
  · obtain ⟨hk, hlen0, _, _⟩ := id htq
    obtain ⟨n, rfl⟩ : ∃ n : Nat, k = n := ⟨k.toNat, by omega⟩
    simp only [Int.toNat_natCast] at hlen0 hi ⊢
    exact idemThose1_c n A c xs b w.heap.size i W (by omega) hlen0 hi hf (cellKeep hW (by simp [go_sem])) (cellKeep hW (by simp [go_sem])) ((HA.out.below (HP.out _)).below hW)
  · rintro e w1 ⟨A1, c1, rfl, ho, hb⟩
    have HO := Lib.hid (ho.mono (base' := w.heap.size) (by simp))
    have HB := Lib.hid (below_alloc1 hb)
    clear ho hb
    go_wp2_with fail
    go_ret
    exact ⟨_, _, rfl, HO.out, HB.out⟩
set_option maxRecDepth 100000 in
set_option maxHeartbeats 2000000 in
theorem spec_IdempotentsOf_c (k : Int) (A : Option Addr) (c : Nat) (xs : List Int) (w : World) (hA : Rd w 1 A xs.length (ints xs)) (hl : xs.length ≤ 1048576) :
    Calls Try.prog 28 #[.agg #[.int .i64 k, .slice A xs.length c]] w (RetRd (fun A c => .slice A (M.IdempotentsOf k xs).length c) 1 (M.IdempotentsOf k xs).length (ints (M.IdempotentsOf k xs)) w) := by
  unfold M.IdempotentsOf M.those
  have h1 := Lib.hid (fun W h => spec_TableOk_c k A c xs W h hl)
  have HA := Lib.hid hA
  clear hA
  obtain ⟨x, hx⟩ : ∃ x, x = M.TableOk k xs := ⟨_, rfl⟩
  rw [← hx] at h1 ⊢
  cases x
  case false =>
    clear hx
    go_enter Try.func28, Try.ntmps28
    go_wp2_with fail
    refine (h1.out _ (HA.out.below ((Below.refl _ _).alloc (Nat.le_refl _) _))).mono ?_
    rintro e w1 ⟨rfl, hb⟩
    go_wp2_with fail
    go_ret
    exact ⟨none, 0, rfl, ⟨rfl, fun h => absurd h (by simp)⟩, below_alloc1 hb⟩
  case true =>
  obtain ⟨hk, hlen0, _, _⟩ := tableOk_of hx.symm
  obtain ⟨n, rfl⟩ : ∃ n : Nat, k = n := ⟨k.toNat, by omega⟩
  rw [if_pos rfl]
  simp only [Int.toNat_natCast] at hlen0 ⊢
  have hn : n ≤ 40 := by omega
  have HT := Lib.hid (fun (i : Nat) W h (hi : i < n) => l08Times_c n A c xs i i W h hn hlen0 (by omega) (by omega))
  clear hx hlen0 hk hl
  go_enter Try.func28, Try.ntmps28
  go_wp2_with fail
  refine (h1.out _ (HA.out.below ((Below.refl _ _).alloc (Nat.le_refl _) _))).mono ?_
  rintro e w1 ⟨rfl, hb⟩
  have d0 : w1.cell? ⟨w.heap.size, 0, none⟩ = some (.int .i64 n) := cellKeep hb (by simp [go_sem])
  have d1 : w1.cell? ⟨w.heap.size, 1, none⟩ = some (.slice A xs.length c) := cellKeep hb (by simp [go_sem])
  have d0' := allocKeep1 d0
  have d1' := allocKeep1 d1
  have HB0 := Lib.hid (below_alloc1 hb)
  have HA1 := Lib.hid (HA.out.below HB0.out)
  have D0 := Lib.hid d0
  have D1 := Lib.hid d1
  clear hb
  go_wp2_with fail
  go_loopw [3, 4] (fun s z wr => ∃ (i : Nat) (A' : Option Addr) (m c' : Nat), i ≤ n ∧ z = .int .i64 i ∧ s = .slice A' m c' ∧ m ≤ i ∧ m = (M.sel (M.idem n xs) i).length ∧ wr.ownsRow w1.heap.size 3 1 (.slice A' m c') m (ints (M.sel (M.idem n xs) i)) ∧ Below w1.heap.size w1 wr) (fun _ z _ => n - (intOf z).toNat)
  case atStart => exact ⟨0, _, 0, 0, by omega, rfl, rfl, by omega, rfl, World.ownsRow_lit w1 #[] 0 (Nat.le_refl _) (by simp [maxLen]) (by simp), (Below.refl _ _).alloc (Nat.le_refl _) _⟩
  case round =>
    clear d0 d1 d0' d1'
    obtain ⟨i, A', m, c', hi, rfl, rfl, hmi, hm, hown, hb⟩ := hrel
    have e0 := cellKeep hb D0.out
    have e1 := cellKeep hb D1.out
    have HN := Lib.hid hm
    have HO := Lib.hid hown
    have HB := Lib.hid hb
    clear hm hown hb
    by_cases hlt : i < n
    case neg =>
      obtain rfl : i = n := by omega
      go_wp2
      go_ret
      exact ⟨A', c', by rw [← HN.out]; rfl, by rw [← HN.out]; exact (Own.of_row HO.out).mono HB0.out.size, HB0.out.trans (HB.out.mono HB0.out.size)⟩
    case pos =>
      have HT1 := Lib.hid (HT.out i wr (HA1.out.below HB.out) hlt)
      by_cases he : M.tI n xs (i : Nat) (i : Nat) = (i : Int)
      case pos =>
        have he' : (M.tI n xs (i : Nat) (i : Nat) == (i : Int)) = true := by rw [beq_iff_eq]; exact he
        have HS := Lib.hid (M.sel_yes (p := M.idem n xs) (k := i) (decide_eq_true he))
        generalize M.tI n xs (i : Nat) (i : Nat) = z at *
        clear he
        go_wp2_with fail
        refine HT1.out.mono ?_
        rintro e w2 ⟨rfl, hb2⟩
        have HO2 := Lib.hid (own_below HO.out hb2)
        have HB2 := Lib.hid (HB.out.trans (hb2.mono HB.out.size))
        clear hb2 e0 e1
        go_wp2_with (at_builtin; refine push_law rfl _ _ rfl slInt rfl HO2.out (us := [.int .i64 i]) rfl rfl (by simp [Value.oneCell']) HB2.out rfl (by omega) ?_; intro A2 c2 w3 hown' hb')
        go_roundw
        case rel => exact ⟨i + 1, A2, m + 1, c2, by omega, by go_num, rfl, by omega, by rw [HS.out, HN.out]; simp, by rw [HS.out, ints_add]; exact hown', hb'⟩
        case measure => simp [intOf]; omega
      case neg =>
        have he' : (M.tI n xs (i : Nat) (i : Nat) == (i : Int)) = false := by rw [beq_eq_false_iff_ne]; exact he
        have HS := Lib.hid (M.sel_no (p := M.idem n xs) (k := i) (decide_eq_false he))
        generalize M.tI n xs (i : Nat) (i : Nat) = z at *
        clear he
        go_wp2_with fail
        refine HT1.out.mono ?_
        rintro e w2 ⟨rfl, hb2⟩
        have HO2 := Lib.hid (own_below HO.out hb2)
        have HB2 := Lib.hid (HB.out.trans (hb2.mono HB.out.size))
        clear hb2 e0 e1
        go_wp2_with fail
        go_roundw
        case rel => exact ⟨i + 1, A', m, c', by omega, by go_num, rfl, by omega, by rw [HS.out]; exact HN.out, by rw [HS.out]; exact HO2.out, HB2.out⟩
        case measure => simp [intOf]; omega

end Go.Proofs.Ytgcmdebkgkepoaa
