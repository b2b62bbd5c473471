/-
  Contracts of indices, of slices.DeleteFunc over them, and of those.
  Conditions: at most 2^20 numbers.
-/
import Derived.Test.YtlohpphmamapeaaComm
import Derived.Test.YtlohpphmamapeaaOwn
import Derived.Lib.SliceRun
namespace Go.Proofs.Ytlohpphmamapeaa
open Go.RowKit
set_option linter.unusedVariables false

/-- The numbers from 0 on. -/
def M.idx (n : Nat) : List Int := M.sel (fun _ => true) n
theorem M.idx_succ (n : Nat) : M.idx (n + 1) = M.idx n ++ [(n : Int)] := M.sel_yes (p := fun _ => true) rfl
theorem M.idx_len : ∀ n, (M.idx n).length = n
  | 0 => rfl
  | n + 1 => by rw [M.idx_succ, List.length_append, M.idx_len n]; rfl
theorem M.idx_at : ∀ {n k : Nat}, k < n → (M.idx n)[k]? = some (k : Int)
  | 0, _, h => by omega
  | n + 1, k, h => by
    rw [M.idx_succ]
    by_cases he : k = n
    · subst he; rw [List.getElem?_append_right (by rw [M.idx_len]; omega), M.idx_len]; simp
    · rw [List.getElem?_append_left (by rw [M.idx_len]; omega)]; exact M.idx_at (by omega)
theorem M.sel_all {p : Nat → Bool} : ∀ {n : Nat}, (∀ i, i < n → p i = true) → M.sel p n = M.idx n
  | 0, _ => rfl
  | n + 1, h => by rw [M.sel_yes (h n (by omega)), M.idx_succ, M.sel_all fun i hi => h i (by omega)]
theorem ints_idx {n k : Nat} (h : k < n) : (ints (M.idx n))[k]? = some (.int .i64 (k : Int)) := by
  have := M.idx_at h
  simp [ints, this]
theorem Own.setBehind {w : World} {base g o i : Nat} {xs : List Value} (h : Own w base 1 (some ⟨g, o, none⟩) i xs) {j : Nat} (hj : i ≤ j) {u : Value} : Own (w.setCell ⟨g, o + j, none⟩ u) base 1 (some ⟨g, o, none⟩) i xs := by
  refine ⟨h.1, fun hn => ?_⟩
  obtain ⟨g', o', cur, E, hA, hb, hg, hl, ht⟩ := h.2 hn
  injection hA with hA
  injection hA with h1 h2
  subst h1
  subst h2
  refine ⟨g, o, cur.setIfInBounds (o + j) u, E, rfl, hb, heap_setCell_same w g _ cur E u hg, by simpa using hl, ?_⟩
  rw [Array.toList_setIfInBounds, List.drop_set, if_neg (by omega), Nat.add_sub_cancel_left, List.take_set_of_le (by omega)]
  exact ht
theorem Own.setCells {base g o i : Nat} {xs : List Value} : ∀ (us : List Value) {w : World} {j : Nat}, i ≤ j → Own w base 1 (some ⟨g, o, none⟩) i xs → Own (w.setCells g (o + j) us) base 1 (some ⟨g, o, none⟩) i xs
  | [], _, _, _, h => h
  | u :: us, w, j, hj, h => by
    have := Own.setCells us (w := w.setCell ⟨g, o + j, none⟩ u) (j := j + 1) (by omega) (h.setBehind hj)
    simpa [World.setCells, Nat.add_assoc] using this
theorem below_setCells {B g : Nat} : ∀ (us : List Value) {w0 w : World} {o : Nat}, B ≤ g → Below B w0 w → Below B w0 (w.setCells g o us)
  | [], _, _, _, _, h => h
  | u :: us, w0, w, o, hg, h => by
    have := below_setCells us (w := w.setCell ⟨g, o, none⟩ u) (o := o + 1) hg (h.setCell hg u)
    simpa [World.setCells] using this
theorem Own.front {w : World} {base g o n i : Nat} {xs : List Value} (h : Own w base 1 (some ⟨g, o, none⟩) n xs) (hi : i ≤ n) : Own w base 1 (some ⟨g, o, none⟩) i (xs.take i) := by
  refine ⟨by rw [List.length_take, h.1]; omega, fun hn => ?_⟩
  obtain ⟨g', o', cur, E, hA, hb, hg, hl, ht⟩ := h.2 (by omega)
  injection hA with hA
  injection hA with h1 h2
  subst h1
  subst h2
  refine ⟨g, o, cur, E, rfl, hb, hg, by omega, ?_⟩
  rw [← ht, List.take_take]
  congr 1
  omega
set_option maxRecDepth 100000 in
set_option maxHeartbeats 1000000 in
theorem indices_c (n : Nat) (w : World) (hn : n ≤ 1048576) : Calls Try.prog 132 #[.int .i64 n] w fun e w' => e = .returned (.slice (some ⟨w.heap.size, 0, none⟩) n n) ∧ Own w' w.heap.size 1 (some ⟨w.heap.size, 0, none⟩) n (ints (M.idx n)) ∧ Below w.heap.size w w' := by
  go_enter Try.func132, Try.ntmps132
  go_wp2_with (at_make; refine make_law rfl _ rfl slInt rfl (by omega) ?_; intro zs w' hzl hown hb')
  obtain ⟨g, hg⟩ : ∃ g, g = w.heap.size := ⟨_, rfl⟩
  rw [← hg] at hown ⊢
  have HO := Lib.hid hown
  have HB := Lib.hid (show Below g w w' from hg ▸ hb')
  have HL := Lib.hid (show zs.length = n by simpa using hzl)
  have HG := Lib.hid hg
  clear hown hb' hzl hg
  go_loopw [4, 9] (fun _ i wr => ∃ k : Nat, k ≤ n ∧ i = .int .i64 k ∧ Own wr g 1 (some ⟨g, 0, none⟩) n (ints (M.idx k) ++ zs.drop k) ∧ Below g w wr) (fun _ i _ => n - (intOf i).toNat)
  case atStart => exact ⟨0, by omega, rfl, by simpa [M.idx, M.sel, ints] using HO.out, HB.out⟩
  case round =>
    obtain ⟨k, hk, rfl, hown, hb⟩ := hrel
    by_cases hlt : k < n
    · obtain ⟨hgb, hcs, hfs, hset⟩ := hown.at0 (by omega)
      obtain ⟨v, hv0⟩ : ∃ v, (ints (M.idx k) ++ zs.drop k)[k]? = some v := ⟨_, List.getElem?_eq_getElem (by rw [List.length_append, ints_len, M.idx_len, List.length_drop]; have := HL.out; omega)⟩
      have hv := hcs k _ hv0
      have hf := hfs k
      have hnew : (ints (M.idx k) ++ zs.drop k).set k (.int .i64 k) = ints (M.idx (k + 1)) ++ zs.drop (k + 1) := by
        have h1 : k < zs.length := by have := HL.out; omega
        rw [List.drop_eq_getElem_cons h1, M.idx_succ, ints_add, List.append_assoc, set_here _ _ _ _ (by rw [ints_len, M.idx_len])]
        rfl
      have HS := Lib.hid (hnew ▸ hset k (.int .i64 k))
      have HT := Lib.hid hb
      clear hcs hfs hset hown hb hgb hv0 hnew
      go_wp2_with fail
      go_roundw
      case rel => exact ⟨k + 1, by omega, by go_num, HS.out, HT.out.setCell (Nat.le_refl _) _⟩
      case measure => simp [intOf]; omega
    · obtain rfl : k = n := by omega
      have HO := Lib.hid hown
      have HB := Lib.hid hb
      clear hown hb
      go_wp2
      go_ret
      have h1 := HO.out
      rw [List.drop_of_length_le (by have := HL.out; omega), List.append_nil] at h1
      have h2 := HB.out
      have h3 := HG.out
      subst h3
      exact ⟨rfl, h1, h2⟩
/-- What a call of the closure of those gives: whether it is to be struck. -/
abbrev ThoseC (b n : Nat) (p : Nat → Bool) (B : Nat) (w : World) : Prop := ∀ W, Below B w W → ∀ i : Nat, i < n → Calls Try.prog 133 #[.int .i64 i, .pointer (some ⟨b, 0, none⟩)] W fun e w' => e = .returned (.bool (!p i)) ∧ Below W.heap.size W w'
set_option maxRecDepth 100000 in
set_option maxHeartbeats 1000000 in
theorem IndexFuncThose_c (b n : Nat) (p : Nat → Bool) (A : Option Addr) (c : Nat) (w : World) (hn : n ≤ 1048576) (hA : Rd w 1 A n (ints (M.idx n))) (hc : ThoseC b n p w.heap.size w) :
    Calls Try.prog 141 #[.slice A n c, .func (.func 133) #[] #[.pointer (some ⟨b, 0, none⟩)]] w fun e w' => (∃ z : Int, e = .returned (.int .i64 z) ∧ ((z = -1 ∧ ∀ i, i < n → p i = true) ∨ ∃ k : Nat, k < n ∧ z = k ∧ p k = false ∧ ∀ i, i < k → p i = true)) ∧ Below w.heap.size w w' := by
  have HA := Lib.hid hA
  have HC := Lib.hid hc
  clear hA hc
  go_enter Try.func141, Try.ntmps141
  go_wp2
  go_loopw [8] (fun i wr => ∃ k : Nat, k ≤ n ∧ i = .int .i64 k ∧ (∀ j, j < k → p j = true) ∧ Below w.heap.size w wr) (fun i _ => n - (intOf i).toNat)
  case atStart => exact ⟨0, by omega, rfl, fun j h => absurd h (by omega), Below.refl _ _⟩
  case round =>
    obtain ⟨k, hk, rfl, hf, hb⟩ := hrel
    have HB := Lib.hid hb
    have HF := Lib.hid hf
    clear hb hf
    by_cases hlt : k < n
    · obtain ⟨b', o, e, hcs⟩ := (HA.out.below HB.out).2 (by omega)
      subst e
      have hv := hcs k _ (ints_idx hlt)
      have HC1 := Lib.hid (HC.out wr HB.out k hlt)
      cases hp : p k
      · rw [hp] at HC1
        have HP := Lib.hid hp
        clear hcs hp
        go_wp2_with fail
        refine HC1.out.mono ?_
        rintro e w1 ⟨rfl, hb1⟩
        go_wp2_with fail
        go_ret
        exact ⟨⟨k, rfl, Or.inr ⟨k, hlt, rfl, HP.out, HF.out⟩⟩, HB.out.trans (hb1.mono HB.out.size)⟩
      · rw [hp] at HC1
        have HP := Lib.hid hp
        clear hcs hp
        go_wp2_with fail
        refine HC1.out.mono ?_
        rintro e w1 ⟨rfl, hb1⟩
        go_wp2_with fail
        go_roundw
        case rel => exact ⟨k + 1, by omega, by go_num, fun j hj => by
          by_cases he : j = k
          · subst he; exact HP.out
          · exact HF.out j (by omega), HB.out.trans (hb1.mono HB.out.size)⟩
        case measure => simp [intOf]; omega
    · obtain rfl : k = n := by omega
      go_wp2
      go_ret
      exact ⟨⟨-1, rfl, Or.inl ⟨rfl, HF.out⟩⟩, HB.out⟩
/-- The row while DeleteFunc goes: what is kept up to j, and behind it what was there. -/
structure Kept (p : Nat → Bool) (n j : Nat) (cs : List Value) : Prop where
  len : cs.length = n
  lt : (M.sel p j).length < j
  front : cs.take (M.sel p j).length = ints (M.sel p j)
  back : ∀ k, j ≤ k → k < n → cs[k]? = some (.int .i64 (k : Int))
theorem sel_le (p : Nat → Bool) : ∀ j, (M.sel p j).length ≤ j := fun j => M.sel_len p j
theorem Kept.yes {p : Nat → Bool} {n j : Nat} {cs : List Value} (h : Kept p n j cs) (hj : j < n) (hp : p j = true) : Kept p n (j + 1) (cs.set (M.sel p j).length (.int .i64 (j : Int))) := by
  have h1 := h.lt
  have h0 := h.len
  refine ⟨by simpa using h0, by rw [M.sel_yes hp]; simp; omega, ?_, fun k hk hkn => ?_⟩
  · rw [M.sel_yes hp, List.length_append, List.length_singleton, List.take_succ_eq_append_getElem (by simp; omega), List.getElem_set_self, List.take_set_of_le (Nat.le_refl _), h.front, ints_add]
    rfl
  · rw [List.getElem?_set_ne (by omega)]
    exact h.back k (by omega) hkn
theorem Kept.no {p : Nat → Bool} {n j : Nat} {cs : List Value} (h : Kept p n j cs) (hp : p j = false) : Kept p n (j + 1) cs := by
  have h1 := h.lt
  refine ⟨h.len, by rw [M.sel_no hp]; omega, by rw [M.sel_no hp]; exact h.front, fun k hk hkn => h.back k (by omega) hkn⟩
theorem Kept.start {p : Nat → Bool} {n k : Nat} (hk : k < n) (h0 : ∀ i, i < k → p i = true) (h1 : p k = false) : Kept p n (k + 1) (ints (M.idx n)) ∧ (M.sel p (k + 1)).length = k := by
  have e : M.sel p (k + 1) = M.idx k := by rw [M.sel_no h1, M.sel_all h0]
  refine ⟨⟨by rw [ints_len, M.idx_len], by rw [e, M.idx_len]; omega, ?_, fun j _ hj => ints_idx hj⟩, by rw [e, M.idx_len]⟩
  rw [e, M.idx_len]
  apply List.ext_getElem?
  intro i
  rw [List.getElem?_take]
  split
  · rename_i hi
    rw [ints_idx (by omega), ints_idx hi]
  · rename_i hi
    rw [List.getElem?_eq_none (by rw [ints_len, M.idx_len]; omega)]
set_option maxRecDepth 100000 in
set_option maxHeartbeats 2000000 in
theorem DeleteFuncThose_c (b n : Nat) (p : Nat → Bool) (g : Nat) (w : World) (hn : n ≤ 1048576) (hO : Own w g 1 (some ⟨g, 0, none⟩) n (ints (M.idx n))) (hg : g ≤ w.heap.size) (hc : ThoseC b n p g w) :
    Calls Try.prog 131 #[.slice (some ⟨g, 0, none⟩) n n, .func (.func 133) #[] #[.pointer (some ⟨b, 0, none⟩)]] w fun e w' => e = .returned (.slice (some ⟨g, 0, none⟩) (M.sel p n).length n) ∧ Own w' g 1 (some ⟨g, 0, none⟩) (M.sel p n).length (ints (M.sel p n)) ∧ Below g w w' := by
  have HI := Lib.hid (IndexFuncThose_c b n p (some ⟨g, 0, none⟩) n w hn hO.rd (fun W hW => hc W (hW.mono hg)))
  have HO := Lib.hid hO
  have HC := Lib.hid hc
  have HG := Lib.hid hg
  obtain ⟨q, hq⟩ : ∃ q, q = M.sel p n := ⟨_, rfl⟩
  have HQ := Lib.hid hq
  obtain ⟨m, hm⟩ : ∃ m, m = q.length := ⟨_, rfl⟩
  have HM := Lib.hid hm
  rw [← hq, ← hm]
  clear hO hc hg hq hm
  go_enter Try.func131, Try.ntmps131
  go_wp2_with fail
  refine HI.out.mono ?_
  rintro e w1 ⟨⟨z, rfl, hz⟩, hb1⟩
  have HB1 := Lib.hid (hb1.mono HG.out)
  have HO1 := Lib.hid (HO.out.below hb1)
  have HG1 := Lib.hid (Nat.le_trans HG.out hb1.size)
  clear hb1
  rcases hz with ⟨rfl, hall⟩ | ⟨k0, hk0, rfl, hp0, hall⟩
  · have HE := Lib.hid (show q = M.idx n by rw [HQ.out]; exact M.sel_all hall)
    have HMM := Lib.hid (show n = m by rw [HM.out, HE.out, M.idx_len])
    clear hall
    go_wp2
    go_ret
    exact ⟨by rw [HMM.out]; rfl, by rw [← HMM.out, HE.out]; exact HO1.out, HB1.out⟩
  · obtain ⟨hk1, hk2⟩ := Kept.start hk0 hall hp0
    have HK := Lib.hid hk1
    have HK2 := Lib.hid hk2
    have hne : ((k0 : Int) == -1) = false := beq_eq_false_iff_ne.2 (by omega)
    clear hk1 hk2 hall hp0
    go_wp2
    go_loopw [5, 6, 7] (fun s5 s6 _ wr => ∃ (i j : Nat) (cs : List Value), s5 = .int .i64 i ∧ s6 = .int .i64 j ∧ j ≤ n ∧ i < j ∧ i = (M.sel p j).length ∧ Kept p n j cs ∧ Own wr g 1 (some ⟨g, 0, none⟩) n cs ∧ Below g w wr ∧ g ≤ wr.heap.size) (fun _ s6 _ _ => n - (intOf s6).toNat)
    case atStart => exact ⟨k0, k0 + 1, ints (M.idx n), rfl, by go_num, by omega, by omega, HK2.out.symm, HK.out, HO1.out, HB1.out, HG1.out⟩
    case round =>
      clear hne HB1 HO1 HG1 HK HK2
      obtain ⟨i, j, cs, rfl, rfl, hj, hij, hi, hkp, hown, hb, hgs⟩ := hrel
      have HKP := Lib.hid hkp
      have HOW := Lib.hid hown
      have HB := Lib.hid hb
      have HGS := Lib.hid hgs
      have HII := Lib.hid hi
      clear hkp hown hb hgs hi
      by_cases hlt : j < n
      · obtain ⟨_, hcs, _, _⟩ := HOW.out.at0 (by omega)
        have hv := hcs j _ (HKP.out.back j (Nat.le_refl _) hlt)
        have HC1 := Lib.hid (HC.out wr HB.out j hlt)
        clear hcs
        cases hp : p j
        · rw [hp] at HC1
          have HP := Lib.hid hp
          clear hp
          go_wp2_with fail
          refine HC1.out.mono ?_
          rintro e w2 ⟨rfl, hb2⟩
          go_wp2_with fail
          go_roundw
          case rel => exact ⟨i, j + 1, cs, rfl, by go_num, by omega, by omega, by rw [M.sel_no HP.out]; exact HII.out, HKP.out.no HP.out, HOW.out.below hb2, HB.out.trans (hb2.mono HGS.out), Nat.le_trans HGS.out hb2.size⟩
          case measure => simp [intOf]; omega
        · rw [hp] at HC1
          have HP := Lib.hid hp
          clear hp
          go_wp2_with fail
          refine HC1.out.mono ?_
          rintro e w2 ⟨rfl, hb2⟩
          have ho2 := HOW.out.below hb2
          obtain ⟨_, hcs, hfs, hset⟩ := ho2.at0 (by omega)
          have hvi := hcs i _ (List.getElem?_eq_getElem (by have := HKP.out.len; omega))
          have hfi := hfs i
          have HS := Lib.hid (hset i (.int .i64 (j : Int)))
          have HB2 := Lib.hid (HB.out.trans (hb2.mono HGS.out))
          have HG2 := Lib.hid (Nat.le_trans HGS.out hb2.size)
          generalize cs[i]'_ = old at hvi
          clear hcs hfs hset ho2 hb2
          go_wp2_with fail
          go_roundw
          case rel => exact ⟨i + 1, j + 1, cs.set i (.int .i64 (j : Int)), by go_num, by go_num, by omega, by omega, by rw [M.sel_yes HP.out, List.length_append, ← HII.out]; rfl, by have h1 := HKP.out.yes hlt HP.out; rwa [← HII.out] at h1, HS.out, HB2.out.setCell (Nat.le_refl _) _, by have := HG2.out; simp; omega⟩
          case measure => simp [intOf]; omega
      · obtain rfl : j = n := by omega
        have HIM := Lib.hid (show i = m by rw [HM.out, HQ.out]; exact HII.out)
        obtain ⟨_, hcs, hfs, _⟩ := HOW.out.at0 (by omega)
        have hcl : ∀ ty, (Builtin.clear_ #[35] ty #[.slice (some ⟨g, i, none⟩) (j - i) (j - i)]).run Try.prog wr = .ok (.tuple #[]) (wr.setCells g i (List.replicate (j - i) (.int .i64 0))) := fun ty => Lib.run_clear_slice (P := Try.prog) wr 35 _ ty (.int .i64 0) Try.underlying35 Try.zeroValue3 rfl rfl g i (j - i) (j - i) (by omega) (fun t ht => by
          rw [hcs (i + t) _ (List.getElem?_eq_getElem (by have := HKP.out.len; omega))]; rfl) (fun t ht => hfs (i + t))
        clear hcs hfs
        go_wp2
        go_ret
        have h5 := (HOW.out.front (i := i) (by omega)).setCells (List.replicate (j - i) (.int .i64 0)) (j := i) (Nat.le_refl _)
        have h6 := HKP.out.front
        rw [← HII.out] at h6
        rw [h6] at h5
        exact ⟨by rw [HIM.out]; rfl, by rw [← HIM.out, HQ.out]; simpa using h5, by simpa using below_setCells _ (Nat.le_refl _) HB.out⟩
/-- What those gives. -/
def M.those (k : Int) (xs : List Int) (p : Nat → Bool) : List Int := if M.TableOk k xs = true then M.sel p k.toNat else []
set_option maxRecDepth 100000 in
set_option maxHeartbeats 2000000 in
theorem those_c (k : Int) (A : Option Addr) (c : Nat) (xs : List Int) (f : Fn) (cap : Array Value) (p : Nat → Bool) (w : World) (hA : Rd w 1 A xs.length (ints xs)) (hl : xs.length ≤ 1048576)
    (hc : M.TableQ k xs → ∀ b W, Below w.heap.size w W → W.cell? ⟨b, 0, none⟩ = some (.func f #[] cap) → ∀ i : Nat, i < k.toNat → Calls Try.prog 133 #[.int .i64 i, .pointer (some ⟨b, 0, none⟩)] W fun e w' => e = .returned (.bool (!p i)) ∧ Below W.heap.size W w') :
    Calls Try.prog 73 #[.agg #[.int .i64 k, .slice A xs.length c], .func f #[] cap] w (RetRd (fun A c => .slice A (M.those k xs p).length c) 1 (M.those k xs p).length (ints (M.those k xs p)) w) := by
  have h1 := Lib.hid (fun W h => impl_TableOk_c k A c xs W h hl)
  have HA := Lib.hid hA
  clear hA
  unfold M.those
  have hmf : ∀ (fn : Fn) (first cap : Array Value) (w : World), (Instr.makeFunc fn first cap).run Try.prog w = .ok (.func fn first cap) w := fun _ _ _ _ => rfl
  have HP := Lib.hid (fun (o p : Obj) => ((Below.refl w.heap.size w).alloc (Nat.le_refl _) o).alloc (by simp) p)
  obtain ⟨x, hx⟩ : ∃ x, x = M.TableOk k xs := ⟨_, rfl⟩
  rw [← hx] at h1 ⊢
  cases x
  case false =>
    clear hx hc
    go_enter Try.func73, Try.ntmps73
    go_wp2_with fail
    refine (h1.out _ (HA.out.below (HP.out _ _))).mono ?_
    rintro e w1 ⟨rfl, hb⟩
    go_wp2_with fail
    go_ret
    exact ⟨none, 0, rfl, ⟨rfl, fun h => absurd h (by simp)⟩, below_alloc2 hb⟩
  case true =>
  have htq := tableOk_of hx.symm
  obtain ⟨hk, hlen0, _, _⟩ := id htq
  have HC := Lib.hid (hc htq)
  obtain ⟨n, rfl⟩ : ∃ n : Nat, k = n := ⟨k.toNat, by omega⟩
  simp only [Int.toNat_natCast] at HC
  rw [if_pos rfl]
  simp only [Int.toNat_natCast]
  have hn : n ≤ 40 := by omega
  clear hx hc htq hlen0 hk hl
  go_enter Try.func73, Try.ntmps73
  go_wp2_with fail
  refine (h1.out _ (HA.out.below (HP.out _ _))).mono ?_
  rintro e w1 ⟨rfl, hb⟩
  have d0 : w1.cell? ⟨w.heap.size, 0, none⟩ = some (.int .i64 n) := cellKeep hb (by simp [go_sem])
  have HF := Lib.hid (show w1.cell? ⟨w.heap.size + 1, 0, none⟩ = some (.func f #[] cap) from cellKeep hb (by simp [go_sem]))
  have HB := Lib.hid (below_alloc2 hb)
  clear hb
  go_wp2_with fail
  refine (indices_c n _ (by omega)).mono ?_
  rintro e w2 ⟨rfl, ho, hb2⟩
  have HF2 := Lib.hid (cellKeep hb2 HF.out)
  have HB2 := Lib.hid (HB.out.trans (hb2.mono HB.out.size))
  obtain ⟨g, hg⟩ : ∃ g, g = w1.heap.size := ⟨_, rfl⟩
  have HGW := Lib.hid (show w.heap.size ≤ g by rw [hg]; exact HB.out.size)
  have HF1 := Lib.hid (show w.heap.size + 1 < g by rw [hg]; exact World.block_lt_of_cell? w1 _ HF.out)
  rw [← hg] at ho ⊢
  have HO := Lib.hid ho
  have hgs : g ≤ w2.heap.size := by rw [hg]; exact hb2.size
  have HGS := Lib.hid hgs
  clear ho hb2 hg d0 hgs
  go_wp2_with fail
  refine (DeleteFuncThose_c (w.heap.size + 1) n p g w2 (by omega) HO.out HGS.out (fun W hW i hi => HC.out _ W (HB2.out.trans (hW.mono HGW.out)) ((hW.cell (p := ⟨w.heap.size + 1, 0, none⟩) HF1.out).trans HF2.out) i hi)).mono ?_
  rintro e w3 ⟨rfl, ho3, hb3⟩
  have HO3 := Lib.hid ho3
  have HB3 := Lib.hid (HB2.out.trans (hb3.mono HGW.out))
  clear ho3 hb3
  go_wp2_with fail
  go_ret
  exact ⟨_, _, rfl, HO3.out.mono HGW.out, HB3.out⟩

end Go.Proofs.Ytlohpphmamapeaa
