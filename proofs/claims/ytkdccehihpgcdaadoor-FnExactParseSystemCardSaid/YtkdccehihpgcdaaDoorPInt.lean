/-
  Contracts of ParseInt.
  Conditions: at most 2^20 bytes; the table uint64pow10 and the two errors read as their initialisers lay them.
-/
import Derived.Test.YtkdccehihpgcdaaDoorPIntM
import Derived.Test.YtkdccehihpgcdaaDoorFmtInt
import Derived.Test.YtkdccehihpgcdaaDoorWordC
import Derived.Lib.AtoiErrMem
namespace Go.Proofs.YtkdccehihpgcdaaDoor
open Go.RowKit Go.ChangeShapes
set_option linter.unusedVariables false
set_option linter.unusedSimpArgs false

def ErrAt (w : World) (g : Nat) : Prop := ∃ ev, w.cell? ⟨g, 0, none⟩ = some ev ∧ (ev = .nilIface ∨ ∃ te pe, ev = .iface te pe)
theorem ErrAt.below {w w' : World} {g : Nat} (h : ErrAt w g) (hb : Below w.heap.size w w') : ErrAt w' g := by
  obtain ⟨ev, h1, h2⟩ := h
  exact ⟨ev, cellKeep hb h1, h2⟩
def Errs (w : World) : Prop := ErrAt w 0 ∧ ErrAt w 1
theorem Errs.below {w w' : World} (h : Errs w) (hb : Below w.heap.size w w') : Errs w' := ⟨h.1.below hb, h.2.below hb⟩
theorem errAt_of {W : World} {name nm : String} {d : DataW Unit} {g : Nat} (hgn : Tryd.prog.globalNamed name = some g) (hty : (Tryd.prog.globals[g]?).map (·.type) = some 52) (hr : Lib.VarReads Tryd.prog W name (.iface nm d)) : ErrAt W g := by
  obtain ⟨g', t, cs, fuel, p, hg, ht, hv, hd⟩ := hr
  obtain rfl := Option.some.inj (hgn.symm.trans hg)
  obtain rfl := Option.some.inj (hty.symm.trans ht)
  obtain ⟨_, u, v, hcs, _⟩ := iface_of_trod Tryd.underlying52 hd
  refine ⟨.iface u v, ?_, Or.inr ⟨u, v, rfl⟩⟩
  have h0 := World.var?_cell hg hv 0
  rw [h0]
  rw [← Array.getElem?_toList, hcs]
  rfl
theorem errs_of_laid {W : World} {l : List (String × DataW Unit)} (h : laidMet Tryd.prog l W) (h1 : ("strconv.ErrSyntax", (Rows.laid_strconv_ErrSyntax : DataW Unit)) ∈ l) (h2 : ("strconv.ErrRange", (Rows.laid_strconv_ErrRange : DataW Unit)) ∈ l) : Errs W :=
  ⟨errAt_of (by kernel_rfl) (by kernel_rfl) (Lib.laidMet.reads h h1), errAt_of (by kernel_rfl) (by kernel_rfl) (Lib.laidMet.reads h h2)⟩

theorem atoi_yes (l : List UInt8) (v : Int) (w : World) (hl : l.length ≤ 1048576) (h : Lib.atoiAll l = .ok v) : Calls Tryd.prog 34 #[.string ⟨l.toArray⟩] w fun e w' => e = .returned (.tuple #[.int .i64 v, .nilIface]) ∧ Below w.heap.size w w' := by
  refine (Tryd.strconv_Atoi_ok ⟨l.toArray⟩ (by simp [ByteArray.size]; omega) v (by simpa using h) w).mono fun e w' ⟨he, hw⟩ => ⟨he, ?_⟩
  rcases hw with rfl | ⟨t, rfl⟩
  · exact Below.refl _ _
  · exact Lib.bytesWorld_below _ _ _
theorem atoi_no (l : List UInt8) (w : World) (hl : l.length ≤ 1048576) (h : ∀ v, Lib.atoiAll l ≠ .ok v) (he : Errs w) : Calls Tryd.prog 34 #[.string ⟨l.toArray⟩] w fun e w' => (∃ (x : Int) (N : Nat), e = .returned (.tuple #[.int .i64 x, .iface 99 (.pointer (some ⟨N, 0, none⟩))])) ∧ Below w.heap.size w w' := by
  obtain ⟨⟨e1, h1, h1'⟩, ⟨e2, h2, h2'⟩⟩ := he
  cases ha : Lib.atoiAll l with
  | ok v => exact absurd ha (h v)
  | range => exact (Tryd.strconv_Atoi_range ⟨l.toArray⟩ (by simp [ByteArray.size]; omega) (by simpa using ha) e2 w h2 h2').mono fun e w' ⟨N, he, _, _, hb⟩ => ⟨⟨_, N, he⟩, hb⟩
  | _ => exact (Tryd.strconv_Atoi_syntax ⟨l.toArray⟩ (by simp [ByteArray.size]; omega) (by constructor <;> simp [ha]) e1 w h1 h1').mono fun e w' ⟨N, he, _, _, hb⟩ => ⟨⟨_, N, he⟩, hb⟩
set_option maxRecDepth 100000 in
set_option maxHeartbeats 1000000 in
theorem impl_ParseInt_c (l : List UInt8) (w : World) (hl : l.length ≤ 1048576) (ht : Tab10 w) (he : Errs w) :
    Calls Tryd.prog 12 #[.string ⟨l.toArray⟩] w fun e w' => e = .returned (.tuple #[.int .i64 (M.parseInt l).1, .bool (M.parseInt l).2]) ∧ Below w.heap.size w w' := by
  have HT := Lib.hid ht
  have HE := Lib.hid he
  clear ht he
  by_cases hok : ∃ v, Lib.atoiAll l = .ok v
  case neg =>
    have hno : ∀ v, Lib.atoiAll l ≠ .ok v := fun v h => hok ⟨v, h⟩
    have hp : M.parseInt l = (0, false) := by
      unfold M.parseInt
      cases ha : Lib.atoiAll l with
      | ok v => exact absurd ha (hno v)
      | _ => rfl
    rw [hp]
    have HA := Lib.hid (atoi_no l w hl hno HE.out)
    clear hok hno hp
    go_enter Tryd.func12, Tryd.ntmps12
    go_wp2_with fail
    refine HA.out.mono ?_
    rintro e w1 ⟨⟨x, N, rfl⟩, hb⟩
    go_wp2_with fail
    go_ret2
    exact ⟨rfl, hb⟩
  case pos =>
    obtain ⟨v, hv⟩ := hok
    have hbd := Lib.atoiAll_bounds hv
    have HA := Lib.hid (atoi_yes l v w hl hv)
    have HF := Lib.hid (fun W ht => impl_FormatInt_c v W hbd.1 hbd.2 ht)
    by_cases heq : Lib.itoa v = l
    case pos =>
      have hp : M.parseInt l = (v, true) := by unfold M.parseInt; rw [hv]; simp [heq]
      rw [hp]
      rw [heq] at HF
      clear hp heq hv
      go_enter Tryd.func12, Tryd.ntmps12
      go_wp2_with fail
      refine HA.out.mono ?_
      rintro e w1 ⟨rfl, hb⟩
      have T1 := Lib.hid hb
      clear hb
      go_wp2_with fail
      refine (HF.out _ (HT.out.below T1.out)).mono ?_
      rintro e w2 ⟨rfl, hb⟩
      have T2 := Lib.hid (T1.out.trans (hb.mono T1.out.size))
      clear hb
      go_wp2_with fail
      go_ret2
      exact ⟨rfl, T2.out⟩
    case neg =>
      have hp : M.parseInt l = (0, false) := by unfold M.parseInt; rw [hv]; simp [heq]
      rw [hp]
      generalize Lib.itoa v = t at *
      have heq' : (t == l) = false := by simpa using heq
      clear hp hv
      go_enter Tryd.func12, Tryd.ntmps12
      go_wp2_with fail
      refine HA.out.mono ?_
      rintro e w1 ⟨rfl, hb⟩
      have T1 := Lib.hid hb
      clear hb
      go_wp2_with fail
      refine (HF.out _ (HT.out.below T1.out)).mono ?_
      rintro e w2 ⟨rfl, hb⟩
      have T2 := Lib.hid (T1.out.trans (hb.mono T1.out.size))
      clear hb
      go_wp2_with fail
      go_ret2
      exact ⟨rfl, T2.out⟩

set_option maxRecDepth 100000 in
set_option maxHeartbeats 2000000 in
theorem spec_ParseInt_neg (t : List UInt8) (w : World) (hl : t.length ≤ 1048576) :
    Calls Tryd.prog 11 #[.string ⟨(45 :: t).toArray⟩] w fun e w' => e = .returned (.tuple #[.int .i64 (M.parseInt (45 :: t)).1, .bool (M.parseInt (45 :: t)).2]) ∧ Below w.heap.size w w' := by
  have HBAD := Lib.hid (fun h => pi_bad (sg := true) (t := t) (fun h => by cases h) h)
  have HOV := Lib.hid (fun i h => pi_over (sg := true) (t := t) (fun h => by cases h) (i := i) h)
  have HEND := Lib.hid (fun n hi h => pi_end (sg := true) (t := t) (fun h => by cases h) (n := n) hi h)
  have e1 : M.signed true t = (45 :: t) := rfl
  rw [e1] at HBAD HOV HEND
  have HD := Lib.hid (fun W => spec_IsDigits_c t W (by omega))
  clear e1
  obtain ⟨dg, hdg⟩ : ∃ dg, dg = M.IsDigits t := ⟨_, rfl⟩
  rw [← hdg] at HD HBAD
  cases dg
  case false =>
    have hp := HBAD.out (Or.inl rfl)
    rw [hp]
    clear HBAD HOV HEND hp hdg
    go_enter Tryd.func11, Tryd.ntmps11
    go_wp2_with fail
    refine (HD.out _).mono ?_
    rintro e w1 ⟨rfl, rfl⟩
    go_wp2_with fail
    go_ret2
    exact ⟨rfl, Below.refl _ _⟩
  case true =>
  by_cases h19 : 19 < t.length
  case pos =>
    have hp := HBAD.out (Or.inr h19)
    rw [hp]
    clear HBAD HOV HEND hp hdg
    go_enter Tryd.func11, Tryd.ntmps11
    go_wp2_with fail
    refine (HD.out _).mono ?_
    rintro e w1 ⟨rfl, rfl⟩
    go_wp2_with fail
    go_ret2
    exact ⟨rfl, Below.refl _ _⟩
  case neg =>
  have HDG := Lib.hid (fun i (hi : i < t.length) => isDigits_at hdg.symm hi)
  have HSU := Lib.hid (fun i (hi : i < t.length) => dval_succ t i hi)
  have HDR := Lib.hid (show M.dval (t.take t.length) = M.dval t by rw [List.take_length])
  have HSF := Lib.hid (fun n W h0 h1 => spec_FormatInt_c n W h0 h1)
  clear HBAD hdg
  go_enter Tryd.func11, Tryd.ntmps11
  go_wp2_with fail
  refine (HD.out _).mono ?_
  rintro e w1 ⟨rfl, rfl⟩
  go_wp2_with fail
  go_loopw [6, 7] (fun a z wr => ∃ i : Nat, i ≤ t.length ∧ z = .int .i64 i ∧ a = .int .i64 (-(M.dval (t.take i) : Int)) ∧ M.dval (t.take i) ≤ 9223372036854775808 ∧ Below w.heap.size w wr) (fun _ z _ => t.length - (intOf z).toNat)
  case atStart => exact ⟨0, by omega, rfl, rfl, by simp [M.dval, M.dvalFrom], Below.refl _ _⟩
  case round =>
    obtain ⟨i, hi, rfl, rfl, hv, hb⟩ := hrel
    have HB := Lib.hid hb
    clear hb
    by_cases hlt : i < t.length
    case pos =>
      have hd := HDG.out i hlt
      have HS := Lib.hid (HSU.out i hlt)
      have HOVI := Lib.hid (HOV.out (i + 1))
      rw [HS.out] at HOVI
      obtain ⟨d, hdd⟩ : ∃ d, d = t[i].toNat - 48 := ⟨_, rfl⟩
      rw [← hdd] at HOVI HS
      have hti : t[i].toNat = 48 + d := by omega
      have hd9 : d ≤ 9 := by omega
      have hci : ((t[i].toNat : Nat) : Int) = 48 + (d : Int) := by omega
      have hq : Int.tdiv (-9223372036854775808 + (d : Int)) 10 = -(((9223372036854775808 - d) / 10 : Nat) : Int) := by
        have h1 : (-9223372036854775808 + (d : Int)) = -(((9223372036854775808 - d : Nat)) : Int) := by omega
        rw [h1]
        exact tdiv10 _
      have hcmp : ((9223372036854775808 - d) / 10 : Nat) < M.dval (t.take i) ↔ 9223372036854775808 < M.dval (t.take i) * 10 + d := by omega
      generalize M.dval (t.take i) = v at *
      obtain ⟨q, hqq⟩ : ∃ q, q = (9223372036854775808 - d) / 10 := ⟨_, rfl⟩
      rw [← hqq] at hq hcmp
      have hq0 : q ≤ 922337203685477580 := by omega
      have h48 : (48 : Int) + (d : Int) - 48 = (d : Int) := by omega
      clear hqq hdd hd hti
      by_cases hov : q < v
      case pos =>
        have HP := Lib.hid (HOVI.out (hcmp.1 hov))
        have hov' : -(v : Int) < -(q : Int) := by omega
        clear HOV HEND hcmp
        go_wp2_with fail
        go_ret2
        exact ⟨by rw [HP.out]; rfl, HB.out⟩
      case neg =>
        have hov' : ¬ -(v : Int) < -(q : Int) := by omega
        have hle : v * 10 + d ≤ 9223372036854775808 := by omega
        clear HOV HEND hcmp
        go_wp2_with fail
        go_roundw
        case rel => exact ⟨i + 1, by omega, by go_num, by rw [HS.out]; congr 1; omega, by rw [HS.out]; exact hle, HB.out⟩
        case measure => simp [intOf] <;> omega
    case neg =>
      obtain rfl : i = t.length := by omega
      have HVD := Lib.hid HDR.out
      rw [HDR.out] at hv ⊢
      generalize hvv : M.dval t = v at *
      have HE := Lib.hid (HEND.out (-(v : Int)) ⟨by omega, by omega⟩ (by simp))
      have HF := Lib.hid (fun W => HSF.out (-(v : Int)) W (by omega) (by omega))
      clear HOV HEND HSF hvv
      generalize Lib.itoa (-(v : Int)) = f at *
      by_cases hf0 : f = (45 :: t)
      case pos =>
        have hp := HE.out
        rw [if_pos hf0] at hp
        have HP := Lib.hid hp
        subst hf0
        clear hp HE
        go_wp2_with fail
        refine (HF.out _).mono ?_
        rintro e w2 ⟨rfl, hb⟩
        go_wp2_with fail
        go_ret2
        exact ⟨by rw [HP.out]; rfl, HB.out.trans (hb.mono HB.out.size)⟩
      case neg =>
        have hp := HE.out
        rw [if_neg hf0] at hp
        have HP := Lib.hid hp
        have hf1 : (f == (45 :: t)) = false := by simpa using hf0
        clear hp HE
        go_wp2_with fail
        refine (HF.out _).mono ?_
        rintro e w2 ⟨rfl, hb⟩
        go_wp2_with fail
        go_ret2
        exact ⟨by rw [HP.out]; rfl, HB.out.trans (hb.mono HB.out.size)⟩

set_option maxRecDepth 100000 in
set_option maxHeartbeats 2000000 in
theorem spec_ParseInt_pos (t : List UInt8) (w : World) (hl : t.length ≤ 1048576) (hh : t.head? ≠ some 45) :
    Calls Tryd.prog 11 #[.string ⟨t.toArray⟩] w fun e w' => e = .returned (.tuple #[.int .i64 (M.parseInt t).1, .bool (M.parseInt t).2]) ∧ Below w.heap.size w w' := by
  have HBAD := Lib.hid (fun h => pi_bad (sg := false) (t := t) (fun _ => hh) h)
  have HOV := Lib.hid (fun i h => pi_over (sg := false) (t := t) (fun _ => hh) (i := i) h)
  have HEND := Lib.hid (fun n hi h => pi_end (sg := false) (t := t) (fun _ => hh) (n := n) hi h)
  have HEDGE := Lib.hid (fun h => pi_edge (t := t) hh h)
  have e1 : M.signed false t = t := rfl
  rw [e1] at HBAD HOV HEND HEDGE
  have HD := Lib.hid (fun W => spec_IsDigits_c t W (by omega))
  have hfirst : ∀ h : 0 < t.length, ¬ (t[0].toNat : Int) = 45 := fun h e => hh (by
    have h2 : t[0] = 45 := UInt8.toNat_inj.1 (by have e3 : (45 : UInt8).toNat = 45 := rfl
                                                 omega)
    rw [List.head?_eq_getElem?, List.getElem?_eq_getElem h, h2])
  by_cases hne : 0 < t.length
  case neg =>
    have ht0 : t = [] := by cases t with
      | nil => rfl
      | cons a r => simp at hne
    subst ht0
    have hp : M.parseInt [] = (0, false) := HBAD.out (Or.inl rfl)
    rw [hp]
    have hid : M.IsDigits [] = false := rfl
    rw [hid] at HD
    clear HBAD HOV HEND HEDGE hfirst e1 hp hid
    go_enter Tryd.func11, Tryd.ntmps11
    go_wp2_with fail
    refine (HD.out _).mono ?_
    rintro e w1 ⟨rfl, rfl⟩
    go_wp2_with fail
    go_ret2
    exact ⟨rfl, Below.refl _ _⟩
  case pos =>
  have hf := hfirst hne
  clear hfirst hh
  clear e1
  obtain ⟨dg, hdg⟩ : ∃ dg, dg = M.IsDigits t := ⟨_, rfl⟩
  rw [← hdg] at HD HBAD
  cases dg
  case false =>
    have hp := HBAD.out (Or.inl rfl)
    rw [hp]
    clear HBAD HOV HEND HEDGE hp hdg
    go_enter Tryd.func11, Tryd.ntmps11
    go_wp2_with fail
    refine (HD.out _).mono ?_
    rintro e w1 ⟨rfl, rfl⟩
    go_wp2_with fail
    go_ret2
    exact ⟨rfl, Below.refl _ _⟩
  case true =>
  by_cases h19 : 19 < t.length
  case pos =>
    have hp := HBAD.out (Or.inr h19)
    rw [hp]
    clear HBAD HOV HEND HEDGE hp hdg
    go_enter Tryd.func11, Tryd.ntmps11
    go_wp2_with fail
    refine (HD.out _).mono ?_
    rintro e w1 ⟨rfl, rfl⟩
    go_wp2_with fail
    go_ret2
    exact ⟨rfl, Below.refl _ _⟩
  case neg =>
  have HDG := Lib.hid (fun i (hi : i < t.length) => isDigits_at hdg.symm hi)
  have HSU := Lib.hid (fun i (hi : i < t.length) => dval_succ t i hi)
  have HDR := Lib.hid (show M.dval (t.take t.length) = M.dval t by rw [List.take_length])
  have HSF := Lib.hid (fun n W h0 h1 => spec_FormatInt_c n W h0 h1)
  clear HBAD hdg
  go_enter Tryd.func11, Tryd.ntmps11
  go_wp2_with fail
  refine (HD.out _).mono ?_
  rintro e w1 ⟨rfl, rfl⟩
  go_wp2_with fail
  go_loopw [6, 7] (fun a z wr => ∃ i : Nat, i ≤ t.length ∧ z = .int .i64 i ∧ a = .int .i64 (-(M.dval (t.take i) : Int)) ∧ M.dval (t.take i) ≤ 9223372036854775808 ∧ Below w.heap.size w wr) (fun _ z _ => t.length - (intOf z).toNat)
  case atStart => exact ⟨0, by omega, rfl, rfl, by simp [M.dval, M.dvalFrom], Below.refl _ _⟩
  case round =>
    obtain ⟨i, hi, rfl, rfl, hv, hb⟩ := hrel
    have HB := Lib.hid hb
    clear hb
    by_cases hlt : i < t.length
    case pos =>
      have hd := HDG.out i hlt
      have HS := Lib.hid (HSU.out i hlt)
      have HOVI := Lib.hid (HOV.out (i + 1))
      rw [HS.out] at HOVI
      obtain ⟨d, hdd⟩ : ∃ d, d = t[i].toNat - 48 := ⟨_, rfl⟩
      rw [← hdd] at HOVI HS
      have hti : t[i].toNat = 48 + d := by omega
      have hd9 : d ≤ 9 := by omega
      have hci : ((t[i].toNat : Nat) : Int) = 48 + (d : Int) := by omega
      have hq : Int.tdiv (-9223372036854775808 + (d : Int)) 10 = -(((9223372036854775808 - d) / 10 : Nat) : Int) := by
        have h1 : (-9223372036854775808 + (d : Int)) = -(((9223372036854775808 - d : Nat)) : Int) := by omega
        rw [h1]
        exact tdiv10 _
      have hcmp : ((9223372036854775808 - d) / 10 : Nat) < M.dval (t.take i) ↔ 9223372036854775808 < M.dval (t.take i) * 10 + d := by omega
      generalize M.dval (t.take i) = v at *
      obtain ⟨q, hqq⟩ : ∃ q, q = (9223372036854775808 - d) / 10 := ⟨_, rfl⟩
      rw [← hqq] at hq hcmp
      have hq0 : q ≤ 922337203685477580 := by omega
      have h48 : (48 : Int) + (d : Int) - 48 = (d : Int) := by omega
      clear hqq hdd hd hti
      by_cases hov : q < v
      case pos =>
        have HP := Lib.hid (HOVI.out (hcmp.1 hov))
        have hov' : -(v : Int) < -(q : Int) := by omega
        clear HOV HEND hcmp
        go_wp2_with fail
        go_ret2
        exact ⟨by rw [HP.out]; rfl, HB.out⟩
      case neg =>
        have hov' : ¬ -(v : Int) < -(q : Int) := by omega
        have hle : v * 10 + d ≤ 9223372036854775808 := by omega
        clear HOV HEND hcmp
        go_wp2_with fail
        go_roundw
        case rel => exact ⟨i + 1, by omega, by go_num, by rw [HS.out]; congr 1; omega, by rw [HS.out]; exact hle, HB.out⟩
        case measure => simp [intOf] <;> omega
    case neg =>
      obtain rfl : i = t.length := by omega
      have HVD := Lib.hid HDR.out
      rw [HDR.out] at hv ⊢
      generalize hvv : M.dval t = v at *
      by_cases hedge : v = 9223372036854775808
      case pos =>
        have HP := Lib.hid (HEDGE.out hedge)
        have hedge' : -(v : Int) = -9223372036854775808 := by omega
        clear HOV HEND HSF HEDGE hvv
        go_wp2_with fail
        go_ret2
        exact ⟨by rw [HP.out]; rfl, HB.out⟩
      case neg =>
      have hedge' : ¬ -(v : Int) = -9223372036854775808 := by omega
      have HE := Lib.hid (HEND.out (v : Int) ⟨by omega, by omega⟩ (by simp))
      have HF := Lib.hid (fun W => HSF.out (v : Int) W (by omega) (by omega))
      clear HOV HEND HSF HEDGE hvv
      generalize Lib.itoa (v : Int) = f at *
      by_cases hf0 : f = t
      case pos =>
        have hp := HE.out
        rw [if_pos hf0] at hp
        have HP := Lib.hid hp
        subst hf0
        clear hp HE
        go_wp2_with fail
        refine (HF.out _).mono ?_
        rintro e w2 ⟨rfl, hb⟩
        go_wp2_with fail
        go_ret2
        exact ⟨by rw [HP.out]; rfl, HB.out.trans (hb.mono HB.out.size)⟩
      case neg =>
        have hp := HE.out
        rw [if_neg hf0] at hp
        have HP := Lib.hid hp
        have hf1 : (f == t) = false := by simpa using hf0
        clear hp HE
        go_wp2_with fail
        refine (HF.out _).mono ?_
        rintro e w2 ⟨rfl, hb⟩
        go_wp2_with fail
        go_ret2
        exact ⟨by rw [HP.out]; rfl, HB.out.trans (hb.mono HB.out.size)⟩

theorem spec_ParseInt_c (l : List UInt8) (w : World) (hl : l.length ≤ 1048576) :
    Calls Tryd.prog 11 #[.string ⟨l.toArray⟩] w fun e w' => e = .returned (.tuple #[.int .i64 (M.parseInt l).1, .bool (M.parseInt l).2]) ∧ Below w.heap.size w w' := by
  by_cases h : l.head? = some 45
  · cases l with
    | nil => cases h
    | cons c t =>
      obtain rfl : c = 45 := by simpa using h
      exact spec_ParseInt_neg t w (by simp at hl; omega)
  · exact spec_ParseInt_pos l w hl h
end Go.Proofs.YtkdccehihpgcdaaDoor
