/-
  The law FnOrders returns true for every input, and leaves its arguments as they were.
  Conditions: none.
-/
import Derived.Test.YtkbogjoodamcfaaOpen
import Derived.Test.YtkbogjoodamcfaaOrd
namespace Go.Proofs.Ytkbogjoodamcfaa.lawOrders
open Go.ChangeShapes Go.WideShapes Go.ChangeAt Go.RowKit
set_option linter.unusedVariables false

set_option maxRecDepth 100000 in
set_option maxHeartbeats 4000000 in
theorem walk (A : Option Addr) (c : Nat) (bs : List UInt8) (w0 : World) (hr : bs.length ≤ 9223372036854775807 ∧ Rd w0 1 A bs.length (u8s bs)) :
    Calls Try.prog 4 #[.slice A bs.length c] w0 fun e w' => e = .returned (.bool true) ∧ Below w0.heap.size w0 w' := by
  obtain ⟨hl, hA⟩ := hr
  obtain ⟨n, hn⟩ : ∃ n, n = bs.length := ⟨_, rfl⟩
  rw [← hn] at hA hl ⊢
  have RA := Lib.hid hA
  clear hA hn
  by_cases hbig : 1048576 < n
  · go_enter Try.func4, Try.ntmps4
    go_wp2
    go_ret
    exact ⟨rfl, Below.refl _ _⟩
  have hnb : n ≤ 1048576 := by omega
  have MW := Lib.hid (fun p most W h hp hm0 hm => MakeWord_c A n c bs p 2 most W h hnb hp (by omega) (by omega) hm0 hm)
  go_enter Try.func4, Try.ntmps4
  go_wp2_with fail
  refine (MW.out 0 5 _ RA.out (by omega) (by omega) (by omega)).mono ?_
  rintro e w1 ⟨⟨u, rfl, hlu, hau⟩, hb⟩
  have T1 := Lib.hid (hb)
  have Mu := Lib.hid hau
  clear hb hau
  go_wp2_with fail
  refine (MW.out 20 5 _ (RA.out.below T1.out) (by omega) (by omega) (by omega)).mono ?_
  rintro e w2 ⟨⟨v, rfl, hlv, hav⟩, hb⟩
  have T2 := Lib.hid (T1.out.trans (hb.mono T1.out.size))
  have Mv := Lib.hid hav
  clear hb hav
  go_wp2_with fail
  refine (MW.out 40 5 _ (RA.out.below T2.out) (by omega) (by omega) (by omega)).mono ?_
  rintro e w3 ⟨⟨w, rfl, hlw, haw⟩, hb⟩
  have T3 := Lib.hid (T2.out.trans (hb.mono T2.out.size))
  have Mw := Lib.hid haw
  clear hb haw
  go_wp2_with fail
  refine (MW.out 60 3 _ (RA.out.below T3.out) (by omega) (by omega) (by omega)).mono ?_
  rintro e w4 ⟨⟨x, rfl, hlx, hax⟩, hb⟩
  have T4 := Lib.hid (T3.out.trans (hb.mono T3.out.size))
  have Mx := Lib.hid hax
  clear hb hax
  go_wp2_with fail
  have HUV := Lib.hid (fun W => impl_IsLess_c u v W (by omega) (by omega))
  have HVU := Lib.hid (fun W => impl_IsLess_c v u W (by omega) (by omega))
  have HVW := Lib.hid (fun W => impl_IsLess_c v w W (by omega) (by omega))
  have HUW := Lib.hid (fun W => impl_IsLess_c u w W (by omega) (by omega))
  have HUU := Lib.hid (fun W => impl_IsLess_c u u W (by omega) (by omega))
  have HBO := Lib.hid (fun W => impl_IsLess_c (x ++ (u ++ w)) (x ++ (v ++ w)) W (by simp; omega) (by simp; omega))
  have HOK := Lib.hid (fun W => impl_WordOk_c 2 (u ++ v) W (by simp; omega))
  have HC0 := Lib.hid (fun W => impl_CountLetter_c (u ++ v) 0 W (by simp; omega))
  have HC1 := Lib.hid (fun W => impl_CountLetter_c (u ++ v) 1 W (by simp; omega))
  rw [less_irrefl] at HUU
  rw [less_both'] at HBO
  rw [among_ok (among_add Mu.out Mv.out) (by simp; omega)] at HOK
  have HS := Lib.hid (among_count (among_add Mu.out Mv.out))
  generalize M.CountLetter (u ++ v) 0 = k0 at *
  generalize M.CountLetter (u ++ v) 1 = k1 at *
  obtain ⟨a, ha⟩ : ∃ a, a = M.IsLess u v := ⟨_, rfl⟩
  obtain ⟨b, hb0⟩ : ∃ b, b = M.IsLess v u := ⟨_, rfl⟩
  obtain ⟨d, hd⟩ : ∃ d, d = M.IsLess v w := ⟨_, rfl⟩
  obtain ⟨f, hf⟩ : ∃ f, f = M.IsLess u w := ⟨_, rfl⟩
  have FA := Lib.hid (fun (h : a = true) => show b = false by rw [hb0]; exact less_asymm (ha.symm.trans h))
  have FB := Lib.hid (fun (h : a = false) (h' : b = false) => less_total (ha.symm.trans h) (hb0.symm.trans h'))
  have FC := Lib.hid (fun (h : a = true) (h' : d = true) => show f = true by rw [hf]; exact less_trans (ha.symm.trans h) (hd.symm.trans h'))
  rw [← ha] at HUV HBO
  rw [← hb0] at HVU
  rw [← hd] at HVW
  rw [← hf] at HUW
  have hlen : (u ++ v).length ≤ 1048576 := by simp; omega
  clear ha hb0 hd hf
  cases a
  case true =>
    obtain rfl := FA.out rfl
    cases d
    case true =>
      obtain rfl := FC.out rfl rfl
      refine (HUV.out _).mono ?_
      rintro e w5 ⟨rfl, hb⟩
      have T5 := Lib.hid (T4.out.trans (hb.mono T4.out.size))
      clear hb
      go_wp2_with fail
      refine (HVU.out _).mono ?_
      rintro e w6 ⟨rfl, hb⟩
      have T6 := Lib.hid (T5.out.trans (hb.mono T5.out.size))
      clear hb
      go_wp2_with fail
      refine (HVW.out _).mono ?_
      rintro e w7 ⟨rfl, hb⟩
      have T7 := Lib.hid (T6.out.trans (hb.mono T6.out.size))
      clear hb
      go_wp2_with fail
      refine (HUW.out _).mono ?_
      rintro e w8 ⟨rfl, hb⟩
      have T8 := Lib.hid (T7.out.trans (hb.mono T7.out.size))
      clear hb
      go_wp2_with fail
      refine (HBO.out _).mono ?_
      rintro e w9 ⟨rfl, hb⟩
      have T9 := Lib.hid (T8.out.trans (hb.mono T8.out.size))
      clear hb
      go_wp2_with fail
      refine (HUU.out _).mono ?_
      rintro e w10 ⟨rfl, hb⟩
      have T10 := Lib.hid (T9.out.trans (hb.mono T9.out.size))
      clear hb
      go_wp2_with fail
      refine (HOK.out _).mono ?_
      rintro e ww ⟨rfl, rfl⟩
      go_wp2_with fail
      refine (HC0.out _).mono ?_
      rintro e w11 ⟨rfl, hb⟩
      have T11 := Lib.hid (T10.out.trans (hb.mono T10.out.size))
      clear hb
      go_wp2_with fail
      refine (HC1.out _).mono ?_
      rintro e w12 ⟨rfl, hb⟩
      have T12 := Lib.hid (T11.out.trans (hb.mono T11.out.size))
      clear hb
      go_wp2_with fail
      go_ret
      exact ⟨ret_bool (by have h := HS.out; simp at h ⊢; (try rw [h]); (try unfold wrap64); try omega), T12.out⟩
    case false =>
      refine (HUV.out _).mono ?_
      rintro e w5 ⟨rfl, hb⟩
      have T5 := Lib.hid (T4.out.trans (hb.mono T4.out.size))
      clear hb
      go_wp2_with fail
      refine (HVU.out _).mono ?_
      rintro e w6 ⟨rfl, hb⟩
      have T6 := Lib.hid (T5.out.trans (hb.mono T5.out.size))
      clear hb
      go_wp2_with fail
      refine (HVW.out _).mono ?_
      rintro e w7 ⟨rfl, hb⟩
      have T7 := Lib.hid (T6.out.trans (hb.mono T6.out.size))
      clear hb
      go_wp2_with fail
      refine (HBO.out _).mono ?_
      rintro e w8 ⟨rfl, hb⟩
      have T8 := Lib.hid (T7.out.trans (hb.mono T7.out.size))
      clear hb
      go_wp2_with fail
      refine (HUU.out _).mono ?_
      rintro e w9 ⟨rfl, hb⟩
      have T9 := Lib.hid (T8.out.trans (hb.mono T8.out.size))
      clear hb
      go_wp2_with fail
      refine (HOK.out _).mono ?_
      rintro e ww ⟨rfl, rfl⟩
      go_wp2_with fail
      refine (HC0.out _).mono ?_
      rintro e w10 ⟨rfl, hb⟩
      have T10 := Lib.hid (T9.out.trans (hb.mono T9.out.size))
      clear hb
      go_wp2_with fail
      refine (HC1.out _).mono ?_
      rintro e w11 ⟨rfl, hb⟩
      have T11 := Lib.hid (T10.out.trans (hb.mono T10.out.size))
      clear hb
      go_wp2_with fail
      go_ret
      exact ⟨ret_bool (by have h := HS.out; simp at h ⊢; (try rw [h]); (try unfold wrap64); try omega), T11.out⟩
  case false =>
    cases b
    case true =>
      refine (HUV.out _).mono ?_
      rintro e w5 ⟨rfl, hb⟩
      have T5 := Lib.hid (T4.out.trans (hb.mono T4.out.size))
      clear hb
      go_wp2_with fail
      refine (HVU.out _).mono ?_
      rintro e w6 ⟨rfl, hb⟩
      have T6 := Lib.hid (T5.out.trans (hb.mono T5.out.size))
      clear hb
      go_wp2_with fail
      refine (HBO.out _).mono ?_
      rintro e w7 ⟨rfl, hb⟩
      have T7 := Lib.hid (T6.out.trans (hb.mono T6.out.size))
      clear hb
      go_wp2_with fail
      refine (HUU.out _).mono ?_
      rintro e w8 ⟨rfl, hb⟩
      have T8 := Lib.hid (T7.out.trans (hb.mono T7.out.size))
      clear hb
      go_wp2_with fail
      refine (HOK.out _).mono ?_
      rintro e ww ⟨rfl, rfl⟩
      go_wp2_with fail
      refine (HC0.out _).mono ?_
      rintro e w9 ⟨rfl, hb⟩
      have T9 := Lib.hid (T8.out.trans (hb.mono T8.out.size))
      clear hb
      go_wp2_with fail
      refine (HC1.out _).mono ?_
      rintro e w10 ⟨rfl, hb⟩
      have T10 := Lib.hid (T9.out.trans (hb.mono T9.out.size))
      clear hb
      go_wp2_with fail
      go_ret
      exact ⟨ret_bool (by have h := HS.out; simp at h ⊢; (try rw [h]); (try unfold wrap64); try omega), T10.out⟩
    case false =>
      have huv : (u == v) = true := by rw [beq_iff_eq]; exact FB.out rfl rfl
      refine (HUV.out _).mono ?_
      rintro e w5 ⟨rfl, hb⟩
      have T5 := Lib.hid (T4.out.trans (hb.mono T4.out.size))
      clear hb
      go_wp2_with fail
      refine (HVU.out _).mono ?_
      rintro e w6 ⟨rfl, hb⟩
      have T6 := Lib.hid (T5.out.trans (hb.mono T5.out.size))
      clear hb
      go_wp2_with fail
      refine (HBO.out _).mono ?_
      rintro e w7 ⟨rfl, hb⟩
      have T7 := Lib.hid (T6.out.trans (hb.mono T6.out.size))
      clear hb
      go_wp2_with fail
      refine (HUU.out _).mono ?_
      rintro e w8 ⟨rfl, hb⟩
      have T8 := Lib.hid (T7.out.trans (hb.mono T7.out.size))
      clear hb
      go_wp2_with fail
      refine (HOK.out _).mono ?_
      rintro e ww ⟨rfl, rfl⟩
      go_wp2_with fail
      refine (HC0.out _).mono ?_
      rintro e w9 ⟨rfl, hb⟩
      have T9 := Lib.hid (T8.out.trans (hb.mono T8.out.size))
      clear hb
      go_wp2_with fail
      refine (HC1.out _).mono ?_
      rintro e w10 ⟨rfl, hb⟩
      have T10 := Lib.hid (T9.out.trans (hb.mono T9.out.size))
      clear hb
      go_wp2_with fail
      go_ret
      exact ⟨ret_bool (by have h := HS.out; simp at h ⊢; (try rw [h]); (try unfold wrap64); try omega), T10.out⟩

set_option maxRecDepth 100000 in
theorem lifted (os : Os) (started : os.Started) (H : Type) (enc : TypeId × Value → H) :
    ReturnsInHanded {} Try.checked os 4 .any (Rows.fnOrdersSpec.pre6 enc Try.prog Try.f4 Rows.fnOrdersRow.domain false) (Rows.fnOrdersSpec.post enc Try.prog Try.f4 false true false false) := by
  refine returnsInHanded_of_change (C := Try.checked) Try.own started (by kernel_rfl) Try.func4
    (ChangeSpec.witness6 (enc := enc) (C := Try.checked) false ⟨#[], #[.slice none 0 0], []⟩ 8 (by kernel_rfl) (by kernel_rfl) (by kernel_rfl) (by kernel_rfl)) ?_
  intro W base args ds gs before hval0 hW hcnd _
  have hval : ∀ (j : Nat) t v, Try.f4.params[j]? = some t → args[j]? = some v → Value.okWide Try.prog W .any base t v := hval0
  have hW' := hW
  have hlt : ∀ x ∈ before, x.block < W.heap.size := fun x hx => hW.lt x hx
  obtain ⟨p, q, hA0, hV, rfl, hfz, hnd⟩ := hW
  have hA : DataW.TrodAll enc Try.prog W 0 (fun _ => true) true Try.f4.params.toList args.toList ds p := hA0
  rw [Try.params4] at hA hval
  obtain ⟨v0, d0, rfl, rfl, h0⟩ := trodAll_one hA
  clear hA0 hval0 hfz hnd
  obtain ⟨A0, c0, l0, rfl, hr0⟩ := openBytes (hval 0 28 v0 rfl rfl) h0
  refine (walk A0 c0 l0 W hr0).mono fun e W' ⟨he, hg⟩ => ?_
  subst he
  exact ⟨_, rfl, lawPost Try.laidOut (by kernel_rfl) (by kernel_rfl) Try.boolType rfl rfl hW' hg⟩

theorem proved : Rows.FnOrdersSaid :=
  OpenClaim.holds_of_wide 4 Try.f4 rfl rfl rfl rfl rfl rfl rfl ⟨rfl, rfl, rfl, rfl, rfl⟩ rfl rfl rfl rfl rfl (by kernel_rfl) Try.func4 (by kernel_rfl)
    (of_decide_eq_true (by kernel_rfl)) (by unfold Func.isWrapper; first | (rw [if_pos (by decide +kernel)]; kernel_rfl) | (rw [if_neg (by decide +kernel)]; exact ⟨rfl, rfl⟩))
    (fun os started H enc _ => lifted os started H enc)
#print axioms proved
end Go.Proofs.Ytkbogjoodamcfaa.lawOrders
