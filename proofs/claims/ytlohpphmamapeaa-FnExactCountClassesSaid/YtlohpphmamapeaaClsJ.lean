/-
  The contracts of ClassesOf and CountClasses.
  Conditions: at most 2^20 entries.
-/
import Derived.Test.YtlohpphmamapeaaClsI
import Derived.Test.YtlohpphmamapeaaRegU
namespace Go.Proofs.Ytlohpphmamapeaa
open Go.RowKit
set_option linter.unusedVariables false
set_option linter.unusedSimpArgs false

theorem rd_new1 (w : World) (v : Value) (E : TypeId) : Rd (w.alloc (.cells #[v] E)) 1 (some ⟨w.heap.size, 0, none⟩) 1 [v] := ⟨rfl, fun _ => ⟨_, _, rfl, fun j u hu => by
  cases j with
  | zero => simp at hu; subst hu; simp [go_sem]
  | succ j => simp at hu⟩⟩
theorem KS.tabg {w wr w' : World} {g bk n i : Nat} {T K : Value} {key : Nat → List Int} {vs : List Value} (h : KS w wr g bk n T key i K vs) (hg : wr.grownBy w' K.ownBlock) : w'.cell? ⟨bk, 0, none⟩ = some K ∧ w'.cell? ⟨g, 0, none⟩ = some (.int .i64 (n : Int)) ∧ w'.cell? ⟨g, 1, none⟩ = some T :=
  ⟨h.cellg hg, cellBelow (h.rest hg) (by have := h.2.2.1.2; omega) h.1.1, cellBelow (h.rest hg) (by have := h.2.2.1.2; omega) h.1.2.1⟩
theorem KS.all {w wr : World} {g bk n i : Nat} {T K : Value} {key : Nat → List Int} {vs : List Value} (h : KS w wr g bk n T key i K vs) : wr.cell? ⟨bk, 0, none⟩ = some K ∧ wr.cell? ⟨g, 0, none⟩ = some (.int .i64 (n : Int)) ∧ wr.cell? ⟨g, 1, none⟩ = some T := ⟨h.cell, h.1.1, h.1.2.1⟩
theorem KS.alloc {w wr : World} {g bk n i : Nat} {T K : Value} {key : Nat → List Int} {vs : List Value} (h : KS w wr g bk n T key i K vs) (o : Obj) : KS w (wr.alloc o) g bk n T key i K vs := h.below ((Below.refl _ _).alloc (Nat.le_refl _) _)
theorem Concat3 (g b1 o1 b2 o2 b3 o3 c1 c2 c3 : Nat) (x1 x2 x3 : List Int) (w : World) (h0 : w.cell? ⟨g, 0, none⟩ = some (.slice (some ⟨b1, o1, none⟩) x1.length c1)) (h1 : w.cell? ⟨g, 1, none⟩ = some (.slice (some ⟨b2, o2, none⟩) x2.length c2)) (h2 : w.cell? ⟨g, 2, none⟩ = some (.slice (some ⟨b3, o3, none⟩) x3.length c3))
    (r1 : Rd w 1 (some ⟨b1, o1, none⟩) x1.length (ints x1)) (r2 : Rd w 1 (some ⟨b2, o2, none⟩) x2.length (ints x2)) (r3 : Rd w 1 (some ⟨b3, o3, none⟩) x3.length (ints x3)) (hp : 0 < x2.length) (hl : (x1 ++ (x2 ++ x3)).length ≤ 1048576) :
    Calls Try.prog 90 #[.slice (some ⟨g, 0, none⟩) 3 3] w (RetInts (x1 ++ (x2 ++ x3)) w) := by
  have h3 : ∀ j, j < 3 → j = 0 ∨ j = 1 ∨ j = 2 := fun j hj => by omega
  have e : catTo (fun | 0 => x1 | 1 => x2 | _ => x3) 3 = x1 ++ (x2 ++ x3) := by simp [catTo, List.range_succ]
  have hc := Concat_c g 3 (fun | 0 => ⟨b1, o1, none⟩ | 1 => ⟨b2, o2, none⟩ | _ => ⟨b3, o3, none⟩) (fun | 0 => c1 | 1 => c2 | _ => c3) (fun | 0 => x1 | 1 => x2 | _ => x3) w (by omega)
    (fun j hj => by rcases h3 j hj with rfl | rfl | rfl <;> assumption) (fun j hj => by rcases h3 j hj with rfl | rfl | rfl <;> assumption) (by rw [e]; simp; omega) (by rw [e]; exact hl)
  rw [e] at hc
  refine hc.mono ?_
  rintro e w' ⟨A, c, rfl, ho, hb⟩
  exact retInts (by simp; omega) (Own.of_row ho) hb
set_option maxRecDepth 100000 in
set_option maxHeartbeats 4000000 in
theorem impl_ClassesOf_bad (k : Int) (A : Option Addr) (c : Nat) (xs : List Int) (kind : Int) (w : World) (hA : Rd w 1 A xs.length (ints xs)) (hl : xs.length ≤ 1048576) (hb : ¬ (M.TableOk k xs = true ∧ 1 ≤ kind ∧ kind ≤ 4)) :
    Calls Try.prog 38 #[.agg #[.int .i64 k, .slice A xs.length c], .int .i64 kind] w fun e w' => e = .returned (.slice none 0 0) ∧ Below w.heap.size w w' := by
  have HA := Lib.hid hA
  have h1 := Lib.hid (fun W h => impl_TableOk_c k A c xs W h hl)
  have h2 := Lib.hid (fun W => within_c kind 1 4 W)
  have HP := Lib.hid (fun (o : Obj) => (Below.refl w.heap.size w).alloc (Nat.le_refl _) o)
  have hw : M.TableOk k xs = true → M.within kind 1 4 = false := fun h => by
    unfold M.within
    rw [Bool.and_eq_false_iff, decide_eq_false_iff_not, decide_eq_false_iff_not]
    by_cases h5 : 1 ≤ kind
    · exact Or.inr (fun h6 => hb ⟨h, h5, h6⟩)
    · exact Or.inl h5
  generalize M.TableOk k xs = x at *
  generalize M.within kind 1 4 = y at *
  clear hA hb
  cases x
  case false =>
    clear hw
    go_enter Try.func38, Try.ntmps38
    go_wp2_with fail
    refine (h1.out _ (HA.out.below (HP.out _))).mono ?_
    rintro e w1 ⟨rfl, hb⟩
    go_wp2_with fail
    go_ret
    exact ⟨rfl, below_alloc1 hb⟩
  case true =>
    obtain rfl := hw rfl
    go_enter Try.func38, Try.ntmps38
    go_wp2_with fail
    refine (h1.out _ (HA.out.below (HP.out _))).mono ?_
    rintro e w1 ⟨rfl, hb⟩
    go_wp2_with fail
    refine (h2.out _).mono ?_
    rintro e w2 ⟨rfl, rfl⟩
    go_wp2_with fail
    go_ret
    exact ⟨rfl, below_alloc1 hb⟩
set_option maxRecDepth 100000 in
set_option maxHeartbeats 8000000 in
theorem impl_ClassesOf_ok (n : Nat) (A : Option Addr) (c : Nat) (xs : List Int) (kind : Int) (w : World) (hA : Rd w 1 A xs.length (ints xs)) (hl : xs.length ≤ 1048576) (hq : M.TableOk n xs = true) (hkd : 1 ≤ kind ∧ kind ≤ 4) :
    Calls Try.prog 38 #[.agg #[.int .i64 n, .slice A xs.length c], .int .i64 kind] w (RetRd (fun A c => .slice A n c) 1 n (nints (M.cls (M.key n xs kind) n).2) w) := by
  have HA := Lib.hid hA
  have h1 := Lib.hid (fun W h => impl_TableOk_c n A c xs W h hl)
  have h2 := Lib.hid (fun W => within_c kind 1 4 W)
  have HP := Lib.hid (fun (o : Obj) => (Below.refl w.heap.size w).alloc (Nat.le_refl _) o)
  rw [hq] at h1
  rw [show M.within kind 1 4 = true by unfold M.within; rw [decide_eq_true hkd.1, decide_eq_true hkd.2]; rfl] at h2
  obtain ⟨⟨hk1, hk2⟩, hlen, hP, _⟩ := tableOk_of hq
  simp only [Int.toNat_natCast] at hlen hP
  have hn1 : 1 ≤ n := by omega
  have hn : n ≤ 40 := by omega
  have HKL := Lib.hid (fun j => Nat.le_trans (key_len n xs kind j) (show 2 * n + 1 ≤ 1048576 by omega))
  have hmf : ∀ (fn : Fn) (first cap : Array Value) (w : World), (Instr.makeFunc fn first cap).run Try.prog w = .ok (.func fn first cap) w := fun _ _ _ _ => rfl
  obtain ⟨D, hD⟩ : ∃ D : Int → Nat → List Int, D = fun (kd : Int) (i : Nat) => M.ideal n xs kd i := ⟨_, rfl⟩
  have HPOS := Lib.hid (show ∀ kd i, i < n → 0 < (D kd i).length from fun kd i hi => by rw [hD]; exact ideal_pos hn1 hP hlen (by omega))
  have HDL := Lib.hid (show ∀ kd i, (D kd i).length ≤ 40 from fun kd i => by rw [hD]; exact Nat.le_trans (ideal_len n xs kd i) hn)
  have HID := Lib.hid (show ∀ (kd : Int) (i : Nat) (W : World), Rd W 1 A xs.length (ints xs) → i < n → (kd = 1 ∨ kd = 2 ∨ kd = 3) → Calls Try.prog 86 #[.agg #[.int .i64 n, .slice A xs.length c], .int .i64 (i : Int), .int .i64 kd] W (RetInts (D kd i) W) from fun kd i W h hi hkd => by
    refine (ideal_c n A c xs i kd W h hn1 hn hlen hP (by omega) hkd).mono ?_
    rintro e w' ⟨A', c', rfl, ho, hb⟩
    have hp := HPOS.out kd i hi
    rw [hD] at hp ⊢
    exact retInts hp ho hb)
  have HKY := Lib.hid (show ∀ i, M.key n xs kind i = if kind = 4 then D 1 i ++ ([-1] ++ D 2 i) else D kind i from fun i => by rw [hD]; rfl)
  obtain ⟨key, hkey⟩ : ∃ key, key = M.key n xs kind := ⟨_, rfl⟩
  rw [← hkey] at HKY HKL ⊢
  clear hq hA hP hlen hkey hD hl
  generalize xs.length = xl at *
  go_enter Try.func38, Try.ntmps38
  go_wp2_with fail
  refine (h1.out _ (HA.out.below (HP.out _))).mono ?_
  rintro e w1 ⟨rfl, hb⟩
  have c0 : w1.cell? ⟨w.heap.size, 0, none⟩ = some (.int .i64 n) := cellKeep hb (by simp [go_sem])
  have c1 : w1.cell? ⟨w.heap.size, 1, none⟩ = some (.slice A xl c) := cellKeep hb (by simp [go_sem])
  have hgb : w.heap.size < w1.heap.size := by have := hb.size; simp at this; omega
  have T1 := Lib.hid (below_alloc1 hb)
  clear hb
  have C0 := Lib.hid c0
  have C1 := Lib.hid c1
  have q0 := fun o => allocKeep1 c0 o
  go_wp2_with fail
  refine (h2.out _).mono ?_
  rintro e w2 ⟨rfl, rfl⟩
  have HKS := Lib.hid (show KS w (w1.alloc (.cells #[.slice none 0 0] 111)) w.heap.size w1.heap.size n (.slice A xl c) key 0 (.slice none 0 0) [] from
    ⟨⟨allocKeep1 C0.out _, allocKeep1 C1.out _, by simp [go_sem], by simp [go_sem]⟩, World.ownsRow_nil _ _ _ _, ⟨by simp, hgb⟩, fun j hj => absurd hj (by omega), T1.out.alloc T1.out.size _⟩)
  obtain ⟨bk, hbk⟩ : ∃ bk, bk = w1.heap.size := ⟨_, rfl⟩
  obtain ⟨g, hg⟩ : ∃ g, g = w.heap.size := ⟨_, rfl⟩
  have HG := Lib.hid hg
  rw [← hbk, ← hg] at HKS
  go_wp2_with fail
  clear c0 c1 q0
  rw [← hbk, ← hg]
  clear hbk hg hgb
  go_loopw [17] (fun z wr => ∃ (i : Nat) (A' : Option Addr) (c' : Nat) (vs : List Value), i ≤ n ∧ z = .int .i64 (i : Int) ∧ KS w wr g bk n (.slice A xl c) key i (.slice A' i c') vs) (fun z _ => n - (intOf z).toNat)
  case atStart => exact ⟨0, none, 0, [], by omega, rfl, HKS.out⟩
  case round =>
    clear HKS
    obtain ⟨i, A', c', vs, hi, rfl, hks⟩ := hrel
    have HKS := Lib.hid hks
    have hall := hks.all
    clear hks
    obtain ⟨k0, c0, c1⟩ := hall
    by_cases hlt : i < n
    case neg =>
      obtain rfl : i = n := by omega
      have HB := Lib.hid (show Below w.heap.size w wr from by have h := HKS.out.2.2.2.2; rw [HG.out] at h; exact h)
      have HNU := Lib.hid (numbered_c i bk key wr hn (fun a b ha hb W hW => ClassesOf1_c w g bk i (.slice A xl c) key A' c' vs W (HKS.out.below hW) a b ha hb hn HKL.out))
      go_wp2_with fail
      refine HNU.out.mono ?_
      rintro e w3 ⟨A3, c3, rfl, ho, hb⟩
      have HO := Lib.hid (ho.mono (base' := w.heap.size) HB.out.size)
      have HB3 := Lib.hid (HB.out.trans (hb.mono HB.out.size))
      clear ho hb
      go_wp2_with fail
      go_ret
      exact ⟨A3, c3, rfl, HO.out, HB3.out⟩
    case pos =>
    have RA := Lib.hid (show Rd wr 1 A xl (ints xs) from HA.out.below (by have h := HKS.out.2.2.2.2; rw [HG.out] at h; exact h))
    have q0 := HPOS.out kind i hlt
    have q1 := HPOS.out 1 i hlt
    have q2 := HPOS.out 2 i hlt
    have hl1 := HDL.out 1 i
    have hl2 := HDL.out 2 i
    have HI := Lib.hid (fun kd W h hk => HID.out kd i W h hlt hk)
    have HKYi := Lib.hid (HKY.out i)
    have hne : bk ≠ g := by have := HKS.out.2.2.1.2; omega
    by_cases h4 : kind = 4
    case neg =>
      rw [if_neg h4] at HKYi
      have h4b : (kind == 4) = false := by rw [beq_eq_false_iff_ne]; exact h4
      have hk3 : kind = 1 ∨ kind = 2 ∨ kind = 3 := by omega
      generalize hd : D kind i = d at *
      have HI1 := Lib.hid (fun W h => HI.out kind W h hk3)
      rw [hd] at HI1
      clear HI hd hk3 q1 q2 hl1 hl2 h4
      go_wp2_with fail
      go_region_law (first
        | (refine step_push_at rfl (.tmp 34) (.tmp 39) rfl slInts rfl ((q3.alloc _).own) (us := [.slice (some ⟨b3, o3, none⟩) d.length cc3]) rfl rfl (by simp [Value.oneCell']) (heap_alloc_new _ _) ((q3.alloc _).base) (by omega) ?_; intro A7 c7 w7 hown7 hg7 hat7; have s7 := (q3.alloc _).tabg hg7; have k7 := s7.1; have f7 := (q3.alloc _).frg hg7)
        | (go_simp; go_at_call 86; refine (HI1.out _ (by first | exact RA.out.below (Below.refl _ _).drew | exact RA.out)).mono ?_; rintro e w3 ⟨b3, o3, cc3, rfl, hr3, hg3, hb3⟩; have q3 := (HKS.out.below ((Below.refl _ _).drew)).below hb3; have s3 := q3.all; have k3 := s3.1; have s4 := fun ob => (q3.alloc ob).all; have k4 := fun ob => (s4 ob).1; have u3 := (HKS.out.below ((Below.refl _ _).drew)).far hg3))
      all_goals
        have HKS7 := Lib.hid (KS.push (q3.alloc _) hg7 hat7 (b := b3) (o := o3) (c := cc3) (by rw [HKYi.out]; exact hown7) (by rw [HKYi.out]; exact q0) (by rw [HKYi.out]; exact hr3.below ((Below.refl _ _).alloc (Nat.le_refl _) _)) u3.1 u3.2)
        clear s7 k7 f7 hown7 hg7 hat7 s3 s4 k3 k4 u3 hr3 hg3 hb3 q3
        go_wp2_with fail
        go_roundw
        case rel => exact ⟨i + 1, A7, c7, _, by omega, by go_num, HKS7.out⟩
        case measure => simp [intOf] <;> omega
    case pos =>
      subst h4
      rw [if_pos rfl] at HKYi
      have KD := HKS.out.below ((Below.refl wr.heap.size wr).drew)
      have RD := RA.out.below ((Below.refl wr.heap.size wr).drew)
      obtain ⟨dd, hdd⟩ : ∃ dd, dd = D 1 i ++ ([-1] ++ D 2 i) := ⟨_, rfl⟩
      rw [← hdd] at HKYi
      have hdp : 0 < dd.length := by rw [hdd]; simp; omega
      have HCC := Lib.hid (show ∀ (g b1 o1 b2 o2 b3 o3 c1 c2 c3 : Nat) (W : World), W.cell? ⟨g, 0, none⟩ = some (.slice (some ⟨b1, o1, none⟩) (D 1 i).length c1) → W.cell? ⟨g, 1, none⟩ = some (.slice (some ⟨b2, o2, none⟩) 1 c2) → W.cell? ⟨g, 2, none⟩ = some (.slice (some ⟨b3, o3, none⟩) (D 2 i).length c3) →
          Rd W 1 (some ⟨b1, o1, none⟩) (D 1 i).length (ints (D 1 i)) → Rd W 1 (some ⟨b2, o2, none⟩) 1 (ints [-1]) → Rd W 1 (some ⟨b3, o3, none⟩) (D 2 i).length (ints (D 2 i)) → Calls Try.prog 90 #[.slice (some ⟨g, 0, none⟩) 3 3] W (RetInts dd W) from fun g b1 o1 b2 o2 b3 o3 c1 c2 c3 W h0 h1 h2 r1 r2 r3 => by
        rw [hdd]
        exact Concat3 g b1 o1 b2 o2 b3 o3 c1 c2 c3 (D 1 i) [-1] (D 2 i) W h0 h1 h2 r1 r2 r3 (by simp) (by simp; omega))
      clear RA q0 hdd
      go_wp2_with fail
      -- KIND4
      refine wp_region_U (fun w' => w'.cell? ⟨bk, 0, none⟩ = some (.slice A' i c') ∧ w'.cell? ⟨g, 0, none⟩ = some (.int .i64 n) ∧ w'.cell? ⟨g, 1, none⟩ = some (.slice A xl c)) 12 (by kernel_rfl) (KD.all) (fun hHeld => ?_)
      refine takeU (i := 0) (v := ?v1) rfl (by kernel_rfl) (fun _ _ _ h => h) (Or.inl ⟨by rfl, ?hy1⟩) (by assumption) ?rest1
      case hy1 => (intro w hSw; (try dsimp only at hSw); (first | (go_simp; done) | (go_simp; with_reducible rfl)))
      case rest1 =>
        try simp only [Act.put, List.setIfInBounds_toArray, List.set_cons_zero, List.set_cons_succ]
        refine takeU (i := 1) (v := ?v2) rfl (by kernel_rfl) (fun _ _ _ h => h) (Or.inl ⟨by rfl, ?hy2⟩) (by assumption) ?rest2
        case hy2 => (intro w hSw; (try dsimp only at hSw); (first | (go_simp; done) | (go_simp; with_reducible rfl)))
        case rest2 =>
          try simp only [Act.put, List.setIfInBounds_toArray, List.set_cons_zero, List.set_cons_succ]
          refine takeU (i := 2) (v := ?v3) rfl (by kernel_rfl) (fun _ _ _ h => h) (Or.inl ⟨by rfl, ?hy3⟩) (by assumption) ?rest3
          case hy3 => (intro w hSw; (try dsimp only at hSw); (first | (go_simp; done) | (go_simp; with_reducible rfl)))
          case rest3 =>
            try simp only [Act.put, List.setIfInBounds_toArray, List.set_cons_zero, List.set_cons_succ]
            refine takeU (i := 5) (v := ?v4) rfl (by kernel_rfl) (fun _ _ _ h => h) (Or.inl ⟨by rfl, ?hy4⟩) (by assumption) ?rest4
            case hy4 => (intro w hSw; (try dsimp only at hSw); (first | (go_simp; done) | (go_simp; with_reducible rfl)))
            case rest4 =>
              try simp only [Act.put, List.setIfInBounds_toArray, List.set_cons_zero, List.set_cons_succ]
              refine takeU (i := 6) (v := ?v5) rfl (by kernel_rfl) (fun _ _ _ h => h) (Or.inl ⟨by rfl, ?hy5⟩) (by assumption) ?rest5
              case hy5 => (intro w hSw; (try dsimp only at hSw); (first | (go_simp; done) | (go_simp; with_reducible rfl)))
              case rest5 =>
                try simp only [Act.put, List.setIfInBounds_toArray, List.set_cons_zero, List.set_cons_succ]
                refine wpAnyU_ready (rs := [3, 4]) (by kernel_rfl) (by simp) ?_
                refine consU rfl (fun K hK => ?_) ?_
                · go_simp
                  go_at_call 86
                  refine (HI.out 1 _ RD (Or.inl rfl)).mono ?_
                  rintro e w11 ⟨b1, o1, d1, rfl, hr1, hg1, hb1⟩
                  have K1 := KD.below hb1
                  have RA1 := RD.below hb1
                  refine hK.out _ _ (K1.all) (fun hHeld => ?_)
                  clear hK K
                  try simp only [Act.put, List.setIfInBounds_toArray, List.set_cons_zero, List.set_cons_succ]
                  refine wpAnyU_ready (rs := [4, 7]) (by kernel_rfl) (by simp) ?_
                  refine consU rfl (fun K hK => ?_) ?_
                  · go_simp
                    have K2 := K1.alloc (.cells #[.int .i64 (-1)] 3)
                    have RA2 := RA1.below ((Below.refl _ _).alloc (Nat.le_refl _) (.cells #[.int .i64 (-1)] 3))
                    have RI12 := hr1.below ((Below.refl _ _).alloc (Nat.le_refl _) (.cells #[.int .i64 (-1)] 3))
                    have RM2 : Rd (w11.alloc (.cells #[.int .i64 (-1)] 3)) 1 (some ⟨(w11).heap.size, 0, none⟩) 1 (ints [-1]) := rd_new1 _ _ _
                    refine hK.out _ _ (K2.all) (fun hHeld => ?_)
                    clear hK K
                    try simp only [Act.put, List.setIfInBounds_toArray, List.set_cons_zero, List.set_cons_succ]
                    refine wpAnyU_ready (rs := [7]) (by kernel_rfl) (by simp) ?_
                    refine consU rfl (fun K hK => ?_) ?_
                    · go_simp
                      go_at_call 86
                      refine (HI.out 2 _ RA2 (Or.inr (Or.inl rfl))).mono ?_
                      rintro e w13 ⟨b3, o3, d3, rfl, hr3, hg3, hb3⟩
                      have K3 := K2.below hb3
                      have RA3 := RA2.below hb3
                      have RI13 := RI12.below hb3
                      have RM3 := RM2.below hb3
                      refine hK.out _ _ (K3.all) (fun hHeld => ?_)
                      clear hK K
                      try simp only [Act.put, List.setIfInBounds_toArray, List.set_cons_zero, List.set_cons_succ]
                      refine wpAnyU_ready (rs := [8]) (by kernel_rfl) (by simp) ?_
                      refine consU rfl (fun K hK => ?_) ?_
                      · go_simp
                        have K4 := K3.alloc (.cells #[.slice (some ⟨b1, o1, none⟩) (D 1 i).length d1, .slice (some ⟨(w11).heap.size, 0, none⟩) 1 1, .slice (some ⟨b3, o3, none⟩) (D 2 i).length d3] 35)
                        have RA4 := RA3.below ((Below.refl _ _).alloc (Nat.le_refl _) (.cells #[.slice (some ⟨b1, o1, none⟩) (D 1 i).length d1, .slice (some ⟨(w11).heap.size, 0, none⟩) 1 1, .slice (some ⟨b3, o3, none⟩) (D 2 i).length d3] 35))
                        have RI14 := RI13.below ((Below.refl _ _).alloc (Nat.le_refl _) (.cells #[.slice (some ⟨b1, o1, none⟩) (D 1 i).length d1, .slice (some ⟨(w11).heap.size, 0, none⟩) 1 1, .slice (some ⟨b3, o3, none⟩) (D 2 i).length d3] 35))
                        have RM4 := RM3.below ((Below.refl _ _).alloc (Nat.le_refl _) (.cells #[.slice (some ⟨b1, o1, none⟩) (D 1 i).length d1, .slice (some ⟨(w11).heap.size, 0, none⟩) 1 1, .slice (some ⟨b3, o3, none⟩) (D 2 i).length d3] 35))
                        have RI24 := hr3.below ((Below.refl _ _).alloc (Nat.le_refl _) (.cells #[.slice (some ⟨b1, o1, none⟩) (D 1 i).length d1, .slice (some ⟨(w11).heap.size, 0, none⟩) 1 1, .slice (some ⟨b3, o3, none⟩) (D 2 i).length d3] 35))
                        refine hK.out _ _ (K4.all) (fun hHeld => ?_)
                        clear hK K
                        try simp only [Act.put, List.setIfInBounds_toArray, List.set_cons_zero, List.set_cons_succ]
                        refine wpAnyU_ready (rs := [9]) (by kernel_rfl) (by simp) ?_
                        refine consU rfl (fun K hK => ?_) ?_
                        · go_simp
                          go_at_call 90
                          refine (HCC.out _ b1 o1 _ 0 b3 o3 d1 1 d3 _ (by simp [go_sem]) (by simp [go_sem]) (by simp [go_sem]) RI14 RM4 RI24).mono ?_
                          rintro e w15 ⟨b5, o5, d5, rfl, hr5, hg5, hb5⟩
                          have far5 := K4.far hg5
                          have K5 := K4.below hb5
                          have RA5 := RA4.below hb5
                          have RI15 := RI14.below hb5
                          have RM5 := RM4.below hb5
                          have RI25 := RI24.below hb5
                          refine hK.out _ _ (K5.all) (fun hHeld => ?_)
                          clear hK K
                          try simp only [Act.put, List.setIfInBounds_toArray, List.set_cons_zero, List.set_cons_succ]
                          refine wpAnyU_ready (rs := [10]) (by kernel_rfl) (by simp) ?_
                          refine consU rfl (fun K hK => ?_) ?_
                          · go_simp
                            have K6 := K5.alloc (.cells #[.slice (some ⟨b5, o5, none⟩) dd.length d5] 35)
                            have RA6 := RA5.below ((Below.refl _ _).alloc (Nat.le_refl _) (.cells #[.slice (some ⟨b5, o5, none⟩) dd.length d5] 35))
                            have RI16 := RI15.below ((Below.refl _ _).alloc (Nat.le_refl _) (.cells #[.slice (some ⟨b5, o5, none⟩) dd.length d5] 35))
                            have RM6 := RM5.below ((Below.refl _ _).alloc (Nat.le_refl _) (.cells #[.slice (some ⟨b5, o5, none⟩) dd.length d5] 35))
                            have RI26 := RI25.below ((Below.refl _ _).alloc (Nat.le_refl _) (.cells #[.slice (some ⟨b5, o5, none⟩) dd.length d5] 35))
                            have RC6 := hr5.below ((Below.refl _ _).alloc (Nat.le_refl _) (.cells #[.slice (some ⟨b5, o5, none⟩) dd.length d5] 35))
                            refine hK.out _ _ (K6.all) (fun hHeld => ?_)
                            clear hK K
                            try simp only [Act.put, List.setIfInBounds_toArray, List.set_cons_zero, List.set_cons_succ]
                            refine wpAnyU_ready (rs := [11]) (by kernel_rfl) (by simp) ?_
                            refine consU rfl (fun K hK => ?_) ?_
                            · refine step_push_at rfl (.tmp 22) (.tmp 32) rfl slInts rfl K6.own (us := [.slice (some ⟨b5, o5, none⟩) dd.length d5]) rfl rfl (by simp [Value.oneCell']) (heap_alloc_new _ _) K6.base (by omega) ?_
                              intro A7 c7 w7 hown7 hg7 hat7
                              have k7 := K6.cellg hg7
                              have f7 := K6.frg hg7
                              refine hK.out _ _ (K6.tabg hg7) (fun hHeld => ?_)
                              clear hK K
                              try simp only [Act.put, List.setIfInBounds_toArray, List.set_cons_zero, List.set_cons_succ]
                              refine wpAnyU_ready (rs := [12]) (by kernel_rfl) (by simp) ?_
                              refine lastU rfl (fun K hK => ?_)
                              go_simp
                              refine hK.out _ _ ?_
                              clear hK K
                              try simp only [Act.put, List.setIfInBounds_toArray, List.set_cons_zero, List.set_cons_succ]
                              refine wpAnyU_done (by kernel_rfl) ?_ _
                              have HKS7 := Lib.hid (KS.push K6 hg7 hat7 (b := b5) (o := o5) (c := d5) (by rw [HKYi.out]; exact hown7) (by rw [HKYi.out]; exact hdp) (by rw [HKYi.out]; exact RC6) far5.1 far5.2)
                              clear k7 f7 hown7 hg7 hat7
                              skip
                              go_wp2_with fail
                              go_roundw
                              case rel => exact ⟨i + 1, A7, c7, _, by omega, by go_num, HKS7.out⟩
                              case measure => simp [intOf] <;> omega
                            exact AllU.nil
                          exact AllU.nil
                        exact AllU.nil
                      exact AllU.nil
                    exact AllU.nil
                  refine consU rfl (fun K hK => ?_) ?_
                  · go_simp
                    go_at_call 86
                    refine (HI.out 2 _ RA1 (Or.inr (Or.inl rfl))).mono ?_
                    rintro e w12 ⟨b2, o2, d2, rfl, hr2, hg2, hb2⟩
                    have K2 := K1.below hb2
                    have RA2 := RA1.below hb2
                    have RI12 := hr1.below hb2
                    refine hK.out _ _ (K2.all) (fun hHeld => ?_)
                    clear hK K
                    try simp only [Act.put, List.setIfInBounds_toArray, List.set_cons_zero, List.set_cons_succ]
                    refine wpAnyU_ready (rs := [4]) (by kernel_rfl) (by simp) ?_
                    refine consU rfl (fun K hK => ?_) ?_
                    · go_simp
                      have K3 := K2.alloc (.cells #[.int .i64 (-1)] 3)
                      have RA3 := RA2.below ((Below.refl _ _).alloc (Nat.le_refl _) (.cells #[.int .i64 (-1)] 3))
                      have RI13 := RI12.below ((Below.refl _ _).alloc (Nat.le_refl _) (.cells #[.int .i64 (-1)] 3))
                      have RI23 := hr2.below ((Below.refl _ _).alloc (Nat.le_refl _) (.cells #[.int .i64 (-1)] 3))
                      have RM3 : Rd (w12.alloc (.cells #[.int .i64 (-1)] 3)) 1 (some ⟨(w12).heap.size, 0, none⟩) 1 (ints [-1]) := rd_new1 _ _ _
                      refine hK.out _ _ (K3.all) (fun hHeld => ?_)
                      clear hK K
                      try simp only [Act.put, List.setIfInBounds_toArray, List.set_cons_zero, List.set_cons_succ]
                      refine wpAnyU_ready (rs := [8]) (by kernel_rfl) (by simp) ?_
                      refine consU rfl (fun K hK => ?_) ?_
                      · go_simp
                        have K4 := K3.alloc (.cells #[.slice (some ⟨b1, o1, none⟩) (D 1 i).length d1, .slice (some ⟨(w12).heap.size, 0, none⟩) 1 1, .slice (some ⟨b2, o2, none⟩) (D 2 i).length d2] 35)
                        have RA4 := RA3.below ((Below.refl _ _).alloc (Nat.le_refl _) (.cells #[.slice (some ⟨b1, o1, none⟩) (D 1 i).length d1, .slice (some ⟨(w12).heap.size, 0, none⟩) 1 1, .slice (some ⟨b2, o2, none⟩) (D 2 i).length d2] 35))
                        have RI14 := RI13.below ((Below.refl _ _).alloc (Nat.le_refl _) (.cells #[.slice (some ⟨b1, o1, none⟩) (D 1 i).length d1, .slice (some ⟨(w12).heap.size, 0, none⟩) 1 1, .slice (some ⟨b2, o2, none⟩) (D 2 i).length d2] 35))
                        have RI24 := RI23.below ((Below.refl _ _).alloc (Nat.le_refl _) (.cells #[.slice (some ⟨b1, o1, none⟩) (D 1 i).length d1, .slice (some ⟨(w12).heap.size, 0, none⟩) 1 1, .slice (some ⟨b2, o2, none⟩) (D 2 i).length d2] 35))
                        have RM4 := RM3.below ((Below.refl _ _).alloc (Nat.le_refl _) (.cells #[.slice (some ⟨b1, o1, none⟩) (D 1 i).length d1, .slice (some ⟨(w12).heap.size, 0, none⟩) 1 1, .slice (some ⟨b2, o2, none⟩) (D 2 i).length d2] 35))
                        refine hK.out _ _ (K4.all) (fun hHeld => ?_)
                        clear hK K
                        try simp only [Act.put, List.setIfInBounds_toArray, List.set_cons_zero, List.set_cons_succ]
                        refine wpAnyU_ready (rs := [9]) (by kernel_rfl) (by simp) ?_
                        refine consU rfl (fun K hK => ?_) ?_
                        · go_simp
                          go_at_call 90
                          refine (HCC.out _ b1 o1 _ 0 b2 o2 d1 1 d2 _ (by simp [go_sem]) (by simp [go_sem]) (by simp [go_sem]) RI14 RM4 RI24).mono ?_
                          rintro e w15 ⟨b5, o5, d5, rfl, hr5, hg5, hb5⟩
                          have far5 := K4.far hg5
                          have K5 := K4.below hb5
                          have RA5 := RA4.below hb5
                          have RI15 := RI14.below hb5
                          have RI25 := RI24.below hb5
                          have RM5 := RM4.below hb5
                          refine hK.out _ _ (K5.all) (fun hHeld => ?_)
                          clear hK K
                          try simp only [Act.put, List.setIfInBounds_toArray, List.set_cons_zero, List.set_cons_succ]
                          refine wpAnyU_ready (rs := [10]) (by kernel_rfl) (by simp) ?_
                          refine consU rfl (fun K hK => ?_) ?_
                          · go_simp
                            have K6 := K5.alloc (.cells #[.slice (some ⟨b5, o5, none⟩) dd.length d5] 35)
                            have RA6 := RA5.below ((Below.refl _ _).alloc (Nat.le_refl _) (.cells #[.slice (some ⟨b5, o5, none⟩) dd.length d5] 35))
                            have RI16 := RI15.below ((Below.refl _ _).alloc (Nat.le_refl _) (.cells #[.slice (some ⟨b5, o5, none⟩) dd.length d5] 35))
                            have RI26 := RI25.below ((Below.refl _ _).alloc (Nat.le_refl _) (.cells #[.slice (some ⟨b5, o5, none⟩) dd.length d5] 35))
                            have RM6 := RM5.below ((Below.refl _ _).alloc (Nat.le_refl _) (.cells #[.slice (some ⟨b5, o5, none⟩) dd.length d5] 35))
                            have RC6 := hr5.below ((Below.refl _ _).alloc (Nat.le_refl _) (.cells #[.slice (some ⟨b5, o5, none⟩) dd.length d5] 35))
                            refine hK.out _ _ (K6.all) (fun hHeld => ?_)
                            clear hK K
                            try simp only [Act.put, List.setIfInBounds_toArray, List.set_cons_zero, List.set_cons_succ]
                            refine wpAnyU_ready (rs := [11]) (by kernel_rfl) (by simp) ?_
                            refine consU rfl (fun K hK => ?_) ?_
                            · refine step_push_at rfl (.tmp 22) (.tmp 32) rfl slInts rfl K6.own (us := [.slice (some ⟨b5, o5, none⟩) dd.length d5]) rfl rfl (by simp [Value.oneCell']) (heap_alloc_new _ _) K6.base (by omega) ?_
                              intro A7 c7 w7 hown7 hg7 hat7
                              have k7 := K6.cellg hg7
                              have f7 := K6.frg hg7
                              refine hK.out _ _ (K6.tabg hg7) (fun hHeld => ?_)
                              clear hK K
                              try simp only [Act.put, List.setIfInBounds_toArray, List.set_cons_zero, List.set_cons_succ]
                              refine wpAnyU_ready (rs := [12]) (by kernel_rfl) (by simp) ?_
                              refine lastU rfl (fun K hK => ?_)
                              go_simp
                              refine hK.out _ _ ?_
                              clear hK K
                              try simp only [Act.put, List.setIfInBounds_toArray, List.set_cons_zero, List.set_cons_succ]
                              refine wpAnyU_done (by kernel_rfl) ?_ _
                              have HKS7 := Lib.hid (KS.push K6 hg7 hat7 (b := b5) (o := o5) (c := d5) (by rw [HKYi.out]; exact hown7) (by rw [HKYi.out]; exact hdp) (by rw [HKYi.out]; exact RC6) far5.1 far5.2)
                              clear k7 f7 hown7 hg7 hat7
                              skip
                              go_wp2_with fail
                              go_roundw
                              case rel => exact ⟨i + 1, A7, c7, _, by omega, by go_num, HKS7.out⟩
                              case measure => simp [intOf] <;> omega
                            exact AllU.nil
                          exact AllU.nil
                        exact AllU.nil
                      exact AllU.nil
                    exact AllU.nil
                  exact AllU.nil
                refine consU rfl (fun K hK => ?_) ?_
                · go_simp
                  have K1 := KD.alloc (.cells #[.int .i64 (-1)] 3)
                  have RA1 := RD.below ((Below.refl _ _).alloc (Nat.le_refl _) (.cells #[.int .i64 (-1)] 3))
                  have RM1 : Rd (wr.drew.alloc (.cells #[.int .i64 (-1)] 3)) 1 (some ⟨(wr.drew).heap.size, 0, none⟩) 1 (ints [-1]) := rd_new1 _ _ _
                  refine hK.out _ _ (K1.all) (fun hHeld => ?_)
                  clear hK K
                  try simp only [Act.put, List.setIfInBounds_toArray, List.set_cons_zero, List.set_cons_succ]
                  refine wpAnyU_ready (rs := [3]) (by kernel_rfl) (by simp) ?_
                  refine consU rfl (fun K hK => ?_) ?_
                  · go_simp
                    go_at_call 86
                    refine (HI.out 1 _ RA1 (Or.inl rfl)).mono ?_
                    rintro e w12 ⟨b2, o2, d2, rfl, hr2, hg2, hb2⟩
                    have K2 := K1.below hb2
                    have RA2 := RA1.below hb2
                    have RM2 := RM1.below hb2
                    refine hK.out _ _ (K2.all) (fun hHeld => ?_)
                    clear hK K
                    try simp only [Act.put, List.setIfInBounds_toArray, List.set_cons_zero, List.set_cons_succ]
                    refine wpAnyU_ready (rs := [7]) (by kernel_rfl) (by simp) ?_
                    refine consU rfl (fun K hK => ?_) ?_
                    · go_simp
                      go_at_call 86
                      refine (HI.out 2 _ RA2 (Or.inr (Or.inl rfl))).mono ?_
                      rintro e w13 ⟨b3, o3, d3, rfl, hr3, hg3, hb3⟩
                      have K3 := K2.below hb3
                      have RA3 := RA2.below hb3
                      have RM3 := RM2.below hb3
                      have RI13 := hr2.below hb3
                      refine hK.out _ _ (K3.all) (fun hHeld => ?_)
                      clear hK K
                      try simp only [Act.put, List.setIfInBounds_toArray, List.set_cons_zero, List.set_cons_succ]
                      refine wpAnyU_ready (rs := [8]) (by kernel_rfl) (by simp) ?_
                      refine consU rfl (fun K hK => ?_) ?_
                      · go_simp
                        have K4 := K3.alloc (.cells #[.slice (some ⟨b2, o2, none⟩) (D 1 i).length d2, .slice (some ⟨(wr.drew).heap.size, 0, none⟩) 1 1, .slice (some ⟨b3, o3, none⟩) (D 2 i).length d3] 35)
                        have RA4 := RA3.below ((Below.refl _ _).alloc (Nat.le_refl _) (.cells #[.slice (some ⟨b2, o2, none⟩) (D 1 i).length d2, .slice (some ⟨(wr.drew).heap.size, 0, none⟩) 1 1, .slice (some ⟨b3, o3, none⟩) (D 2 i).length d3] 35))
                        have RM4 := RM3.below ((Below.refl _ _).alloc (Nat.le_refl _) (.cells #[.slice (some ⟨b2, o2, none⟩) (D 1 i).length d2, .slice (some ⟨(wr.drew).heap.size, 0, none⟩) 1 1, .slice (some ⟨b3, o3, none⟩) (D 2 i).length d3] 35))
                        have RI14 := RI13.below ((Below.refl _ _).alloc (Nat.le_refl _) (.cells #[.slice (some ⟨b2, o2, none⟩) (D 1 i).length d2, .slice (some ⟨(wr.drew).heap.size, 0, none⟩) 1 1, .slice (some ⟨b3, o3, none⟩) (D 2 i).length d3] 35))
                        have RI24 := hr3.below ((Below.refl _ _).alloc (Nat.le_refl _) (.cells #[.slice (some ⟨b2, o2, none⟩) (D 1 i).length d2, .slice (some ⟨(wr.drew).heap.size, 0, none⟩) 1 1, .slice (some ⟨b3, o3, none⟩) (D 2 i).length d3] 35))
                        refine hK.out _ _ (K4.all) (fun hHeld => ?_)
                        clear hK K
                        try simp only [Act.put, List.setIfInBounds_toArray, List.set_cons_zero, List.set_cons_succ]
                        refine wpAnyU_ready (rs := [9]) (by kernel_rfl) (by simp) ?_
                        refine consU rfl (fun K hK => ?_) ?_
                        · go_simp
                          go_at_call 90
                          refine (HCC.out _ b2 o2 _ 0 b3 o3 d2 1 d3 _ (by simp [go_sem]) (by simp [go_sem]) (by simp [go_sem]) RI14 RM4 RI24).mono ?_
                          rintro e w15 ⟨b5, o5, d5, rfl, hr5, hg5, hb5⟩
                          have far5 := K4.far hg5
                          have K5 := K4.below hb5
                          have RA5 := RA4.below hb5
                          have RM5 := RM4.below hb5
                          have RI15 := RI14.below hb5
                          have RI25 := RI24.below hb5
                          refine hK.out _ _ (K5.all) (fun hHeld => ?_)
                          clear hK K
                          try simp only [Act.put, List.setIfInBounds_toArray, List.set_cons_zero, List.set_cons_succ]
                          refine wpAnyU_ready (rs := [10]) (by kernel_rfl) (by simp) ?_
                          refine consU rfl (fun K hK => ?_) ?_
                          · go_simp
                            have K6 := K5.alloc (.cells #[.slice (some ⟨b5, o5, none⟩) dd.length d5] 35)
                            have RA6 := RA5.below ((Below.refl _ _).alloc (Nat.le_refl _) (.cells #[.slice (some ⟨b5, o5, none⟩) dd.length d5] 35))
                            have RM6 := RM5.below ((Below.refl _ _).alloc (Nat.le_refl _) (.cells #[.slice (some ⟨b5, o5, none⟩) dd.length d5] 35))
                            have RI16 := RI15.below ((Below.refl _ _).alloc (Nat.le_refl _) (.cells #[.slice (some ⟨b5, o5, none⟩) dd.length d5] 35))
                            have RI26 := RI25.below ((Below.refl _ _).alloc (Nat.le_refl _) (.cells #[.slice (some ⟨b5, o5, none⟩) dd.length d5] 35))
                            have RC6 := hr5.below ((Below.refl _ _).alloc (Nat.le_refl _) (.cells #[.slice (some ⟨b5, o5, none⟩) dd.length d5] 35))
                            refine hK.out _ _ (K6.all) (fun hHeld => ?_)
                            clear hK K
                            try simp only [Act.put, List.setIfInBounds_toArray, List.set_cons_zero, List.set_cons_succ]
                            refine wpAnyU_ready (rs := [11]) (by kernel_rfl) (by simp) ?_
                            refine consU rfl (fun K hK => ?_) ?_
                            · refine step_push_at rfl (.tmp 22) (.tmp 32) rfl slInts rfl K6.own (us := [.slice (some ⟨b5, o5, none⟩) dd.length d5]) rfl rfl (by simp [Value.oneCell']) (heap_alloc_new _ _) K6.base (by omega) ?_
                              intro A7 c7 w7 hown7 hg7 hat7
                              have k7 := K6.cellg hg7
                              have f7 := K6.frg hg7
                              refine hK.out _ _ (K6.tabg hg7) (fun hHeld => ?_)
                              clear hK K
                              try simp only [Act.put, List.setIfInBounds_toArray, List.set_cons_zero, List.set_cons_succ]
                              refine wpAnyU_ready (rs := [12]) (by kernel_rfl) (by simp) ?_
                              refine lastU rfl (fun K hK => ?_)
                              go_simp
                              refine hK.out _ _ ?_
                              clear hK K
                              try simp only [Act.put, List.setIfInBounds_toArray, List.set_cons_zero, List.set_cons_succ]
                              refine wpAnyU_done (by kernel_rfl) ?_ _
                              have HKS7 := Lib.hid (KS.push K6 hg7 hat7 (b := b5) (o := o5) (c := d5) (by rw [HKYi.out]; exact hown7) (by rw [HKYi.out]; exact hdp) (by rw [HKYi.out]; exact RC6) far5.1 far5.2)
                              clear k7 f7 hown7 hg7 hat7
                              skip
                              go_wp2_with fail
                              go_roundw
                              case rel => exact ⟨i + 1, A7, c7, _, by omega, by go_num, HKS7.out⟩
                              case measure => simp [intOf] <;> omega
                            exact AllU.nil
                          exact AllU.nil
                        exact AllU.nil
                      exact AllU.nil
                    exact AllU.nil
                  exact AllU.nil
                exact AllU.nil
      -- /KIND4
end Go.Proofs.Ytlohpphmamapeaa
