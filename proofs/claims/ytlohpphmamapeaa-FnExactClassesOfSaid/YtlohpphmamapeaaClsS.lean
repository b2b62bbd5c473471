/-
  The contract of ClassesOf of the reference.
  Conditions: at most 2^20 entries.
-/
import Derived.Test.YtlohpphmamapeaaRel
import Derived.Test.YtlohpphmamapeaaTabOk2
namespace Go.Proofs.Ytlohpphmamapeaa
open Go.RowKit
set_option linter.unusedVariables false
set_option linter.unusedSimpArgs false

def nints (l : List Nat) : List Value := ints (l.map Int.ofNat)
theorem nints_snoc (l : List Nat) (c : Nat) : nints (l ++ [c]) = nints l ++ [.int .i64 (c : Int)] := by simp [nints, ints]
theorem nints_at {l : List Nat} {k c : Nat} (h : l[k]? = some c) : (nints l)[k]? = some (.int .i64 (c : Int)) := by simp [nints, ints, h]
set_option maxRecDepth 100000 in
set_option maxHeartbeats 4000000 in
theorem spec_ClassesOf_bad (k : Int) (A : Option Addr) (c : Nat) (xs : List Int) (kind : Int) (w : World) (hA : Rd w 1 A xs.length (ints xs)) (hl : xs.length ≤ 1048576) (hb : ¬ (M.TableOk k xs = true ∧ 1 ≤ kind ∧ kind ≤ 4)) :
    Calls Try.prog 37 #[.agg #[.int .i64 k, .slice A xs.length c], .int .i64 kind] w fun e w' => e = .returned (.slice none 0 0) ∧ Below w.heap.size w w' := by
  have HA := Lib.hid hA
  have h1 := Lib.hid (fun W h => spec_TableOk_c k A c xs W h hl)
  have h2 := Lib.hid (fun W => l01In_c kind 1 4 W)
  have HP := Lib.hid (fun (o : Obj) => (Below.refl w.heap.size w).alloc (Nat.le_refl _) o)
  have hw : M.TableOk k xs = true → M.within kind 1 4 = false := fun h => by
    unfold M.within
    rw [Bool.and_eq_false_iff, decide_eq_false_iff_not, decide_eq_false_iff_not]
    by_cases h5 : 1 ≤ kind
    · exact Or.inr (fun h6 => hb ⟨h, h5, h6⟩)
    · exact Or.inl h5
  generalize M.TableOk k xs = x at *
  generalize M.within kind 1 4 = y at *
  clear hA hb
  cases x
  case false =>
    clear hw
    go_enter Try.func37, Try.ntmps37
    go_wp2_with fail
    refine (h1.out _ (HA.out.below (HP.out _))).mono ?_
    rintro e w1 ⟨rfl, hb⟩
    go_wp2_with fail
    go_ret
    exact ⟨rfl, below_alloc1 hb⟩
  case true =>
    obtain rfl := hw rfl
    go_enter Try.func37, Try.ntmps37
    go_wp2_with fail
    refine (h1.out _ (HA.out.below (HP.out _))).mono ?_
    rintro e w1 ⟨rfl, hb⟩
    go_wp2_with fail
    refine (h2.out _).mono ?_
    rintro e w2 ⟨rfl, rfl⟩
    go_wp2_with fail
    go_ret
    exact ⟨rfl, below_alloc1 hb⟩
set_option maxRecDepth 100000 in
set_option maxHeartbeats 4000000 in
theorem spec_ClassesOf_ok (n : Nat) (A : Option Addr) (c : Nat) (xs : List Int) (kind : Int) (w : World) (hA : Rd w 1 A xs.length (ints xs)) (hl : xs.length ≤ 1048576) (hq : M.TableOk n xs = true) (hkd : 1 ≤ kind ∧ kind ≤ 4) :
    Calls Try.prog 37 #[.agg #[.int .i64 n, .slice A xs.length c], .int .i64 kind] w (RetRd (fun A c => .slice A n c) 1 n (nints (M.cls (M.key n xs kind) n).2) w) := by
  have HA := Lib.hid hA
  have h1 := Lib.hid (fun W h => spec_TableOk_c n A c xs W h hl)
  have h2 := Lib.hid (fun W => l01In_c kind 1 4 W)
  have HP := Lib.hid (fun (o : Obj) => (Below.refl w.heap.size w).alloc (Nat.le_refl _) o)
  rw [hq] at h1
  rw [show M.within kind 1 4 = true by unfold M.within; rw [decide_eq_true hkd.1, decide_eq_true hkd.2]; rfl] at h2
  obtain ⟨⟨hk1, hk2⟩, hlen, hP, _⟩ := tableOk_of hq
  simp only [Int.toNat_natCast] at hlen hP
  have hn1 : 1 ≤ n := by omega
  have hn : n ≤ 40 := by omega
  have HR := Lib.hid (fun i k W h (hi : i < n) (hk : k < n) => l09Related_c n A c xs i k kind W h hn1 hn hlen hP hi hk hkd)
  generalize hkey : M.key n xs kind = key at *
  have HI := Lib.hid (cls_inv key)
  clear hq hA hP hlen hkey hkd
  generalize xs.length = xl at *
  go_enter Try.func37, Try.ntmps37
  go_wp2_with fail
  refine (h1.out _ (HA.out.below (HP.out _))).mono ?_
  rintro e w1 ⟨rfl, hb⟩
  have c0 : w1.cell? ⟨w.heap.size, 0, none⟩ = some (.int .i64 n) := cellKeep hb (by simp [go_sem])
  have c1 : w1.cell? ⟨w.heap.size, 1, none⟩ = some (.slice A xl c) := cellKeep hb (by simp [go_sem])
  have T1 := Lib.hid (below_alloc1 hb)
  clear hb
  have C0 := Lib.hid c0
  have C1 := Lib.hid c1
  go_wp2_with fail
  refine (h2.out _).mono ?_
  rintro e w2 ⟨rfl, rfl⟩
  go_wp2_with fail
  have RW := Lib.hid (show Below w.heap.size w w1 from T1.out)
  go_loopw [5, 6, 7] (fun s m z wr => ∃ (i f : Nat) (A' : Option Addr) (c' : Nat), i ≤ n ∧ z = .int .i64 (i : Int) ∧ f = (M.cls key i).1.length ∧ m = .int .i64 (f : Int) ∧ s = .slice A' i c' ∧ wr.ownsRow w1.heap.size 3 1 (.slice A' i c') i (nints (M.cls key i).2) ∧ Below w1.heap.size w1 wr) (fun _ _ z _ => n - (intOf z).toNat)
  case atStart => exact ⟨0, 0, _, 0, by omega, rfl, rfl, rfl, rfl, World.ownsRow_lit w1 #[] 0 (Nat.le_refl _) (by simp [maxLen]) (by simp), (Below.refl _ _).alloc (Nat.le_refl _) _⟩
  case round =>
    obtain ⟨i, f, A', c', hi, rfl, hf, rfl, rfl, hown, hb⟩ := hrel
    have HO := Lib.hid hown
    have HB := Lib.hid hb
    have HF := Lib.hid hf
    have hfi : f ≤ i := by have := (HI.out i).most; omega
    clear hown hb hf
    have d0 := cellKeep HB.out C0.out
    by_cases hlt : i < n
    case neg =>
      obtain rfl : i = n := by omega
      clear c0 c1
      go_wp2_with fail
      go_ret
      exact ⟨A', c', rfl, (Own.of_row HO.out).mono T1.out.size, T1.out.trans (HB.out.mono T1.out.size)⟩
    case pos =>
    clear c0 c1
    go_wp2_with fail
    clear d0
    go_loopw [8, 9] (fun y z wr2 => ∃ (r cl : Nat), r ≤ i ∧ cl ≤ f ∧ z = .int .i64 ((r : Int) - 1) ∧ y = .int .i64 (cl : Int) ∧ ((cl = f ∧ ∀ j, r ≤ j → j < i → key i ≠ key j) ∨ (M.cls key i).1.findIdx? (fun f => decide (key i = key f)) = some cl) ∧ Below wr.heap.size wr wr2) (fun _ z _ => (intOf z + 1).toNat)
    case atStart => exact ⟨i, f, by omega, by omega, by go_num, rfl, Or.inl ⟨rfl, fun j h1 h2 => absurd h1 (by omega)⟩, Below.refl _ _⟩
    case round =>
      obtain ⟨r, cl, hr, hcl, rfl, rfl, hcls, hb⟩ := hrel
      have HC := Lib.hid hcls
      have HB2 := Lib.hid hb
      clear hcls hb
      have HO2 := Lib.hid (own_below HO.out HB2.out)
      have HB3 := Lib.hid (HB.out.trans (HB2.out.mono HB.out.size))
      have HFo : Hid (∀ {k c : Nat}, k < i → key i = key k → (M.cls key i).2[k]? = some c → (M.cls key i).1.findIdx? (fun f => decide (key i = key f)) = some c) := Lib.hid (fun hk he hc => (HI.out i).found hk he hc)
      by_cases hr0 : r = 0
      case pos =>
        subst hr0
        by_cases hcf : cl = f
        · have HS := Lib.hid (show M.cls key (i + 1) = ((M.cls key i).1 ++ [i], (M.cls key i).2 ++ [cl]) from by
            rcases HC.out with ⟨h1, h2⟩ | h
            · rw [cls_none ((HI.out i).none (fun k hk => h2 k (Nat.zero_le _) hk)), h1, ← HF.out]
            · have := (List.findIdx?_eq_some_iff_getElem.1 h).1
              have := HF.out
              omega)
          have hci : (cl : Int) = (f : Int) := by omega
          have hcb : ((cl : Int) == (f : Int)) = true := by rw [beq_iff_eq]; exact hci
          subst hcf
          clear hci
          have hxb : (0 : Int) ≤ (cl : Int) + 1 := by omega
          go_wp2_with (at_builtin; refine push_law rfl _ _ rfl slInt rfl HO2.out (us := [.int .i64 (cl : Int)]) rfl rfl (by simp [Value.oneCell']) HB3.out rfl (by omega) ?_; intro A5 c5 w5 hown5 hb5)
          go_roundw
          case rel => exact ⟨i + 1, cl + 1, A5, c5, by omega, by go_num, by rw [HS.out, List.length_append, ← HF.out]; rfl, by go_num, rfl, by rw [HS.out, nints_snoc]; exact hown5, hb5⟩
          case measure => simp [intOf] <;> omega
        · have HS := Lib.hid (show M.cls key (i + 1) = ((M.cls key i).1, (M.cls key i).2 ++ [cl]) from by
            rcases HC.out with ⟨h1, h2⟩ | h
            · exact absurd h1 hcf
            · exact cls_found h)
          have hcb : ((cl : Int) == (f : Int)) = false := by rw [beq_eq_false_iff_ne]; omega
          go_wp2_with (at_builtin; refine push_law rfl _ _ rfl slInt rfl HO2.out (us := [.int .i64 (cl : Int)]) rfl rfl (by simp [Value.oneCell']) HB3.out rfl (by omega) ?_; intro A5 c5 w5 hown5 hb5)
          go_roundw
          case rel => exact ⟨i + 1, f, A5, c5, by omega, by go_num, by rw [HS.out, ← HF.out], rfl, rfl, by rw [HS.out, nints_snoc]; exact hown5, hb5⟩
          case measure => simp [intOf] <;> omega
      case neg =>
      obtain ⟨q, rfl⟩ : ∃ q, r = q + 1 := ⟨r - 1, by omega⟩
      have d0 := cellKeep HB3.out C0.out
      have d1 := cellKeep HB3.out C1.out
      have RA := Lib.hid (HA.out.below (T1.out.trans (HB3.out.mono T1.out.size)))
      have hqi : q < i := by omega
      obtain ⟨cq, fq, hcq, _, _⟩ := (HI.out i).cls q hqi
      have hcqf : cq ≤ f := by have := (HI.out i).bound hcq; have := HF.out; omega
      obtain ⟨b, o, rfl, hcs⟩ := (Rd.of_own HO2.out).2 (by omega)
      have HCC := Lib.hid (hcs q _ (nints_at hcq))
      clear hcs
      have HRR := Lib.hid (HR.out i q _ RA.out hlt (by omega))
      have hq1 : ((q + 1 : Nat) : Int) - 1 = (q : Int) := by omega
      rw [hq1]
      clear hq1
      by_cases he : key i = key q
      · have HC1 := Lib.hid (HFo.out hqi he hcq)
        rw [decide_eq_true he] at HRR
        clear he
        go_wp2_with fail
        refine HRR.out.mono ?_
        rintro e w3 ⟨rfl, hb⟩
        have cc := cellKeep hb HCC.out
        have HB4 := Lib.hid (HB2.out.trans (hb.mono HB2.out.size))
        clear hb d0 d1
        have hqn : (q : Int) < (i : Int) := by omega
        go_wp2_with fail
        go_roundw
        case rel => exact ⟨q, cq, by omega, hcqf, by go_num, rfl, Or.inr HC1.out, HB4.out⟩
        case measure => simp [intOf] <;> omega
      · have HC1 : Hid ((cl = f ∧ ∀ j, q ≤ j → j < i → key i ≠ key j) ∨ (M.cls key i).1.findIdx? (fun f => decide (key i = key f)) = some cl) := Lib.hid (by
          rcases HC.out with ⟨h1, h2⟩ | h
          · refine Or.inl ⟨h1, fun j h3 h4 => ?_⟩
            by_cases e : j = q
            · subst e; exact he
            · exact h2 j (by omega) h4
          · exact Or.inr h)
        rw [decide_eq_false he] at HRR
        clear he
        go_wp2_with fail
        refine HRR.out.mono ?_
        rintro e w3 ⟨rfl, hb⟩
        have HB4 := Lib.hid (HB2.out.trans (hb.mono HB2.out.size))
        clear hb d0 d1
        go_wp2_with fail
        go_roundw
        case rel => exact ⟨q, cl, by omega, hcl, by go_num, rfl, HC1.out, HB4.out⟩
        case measure => simp [intOf] <;> omega
end Go.Proofs.Ytlohpphmamapeaa
