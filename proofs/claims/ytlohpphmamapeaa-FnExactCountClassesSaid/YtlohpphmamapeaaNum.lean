/-
  Contracts of slices.IndexFunc at numbered's question, and of numbered at ClassesOf's.
  Conditions: at most 40 elements.
-/
import Derived.Test.YtlohpphmamapeaaRel
import Derived.Test.YtlohpphmamapeaaPushM
import Derived.Test.YtlohpphmamapeaaClsS
import Derived.Maps.AppendAt
namespace Go.Proofs.Ytlohpphmamapeaa
open Go.RowKit
set_option linter.unusedVariables false
set_option linter.unusedSimpArgs false

section
variable {P : Program} {ops : Array Oper} {rest : List Oper} {o : Oper} {a : Act} {Q : Exit → Act → World → Prop} {w W : World}
theorem run_push_at {t ty : TypeId} {e : TypeId} {size : Nat} (T : SlT P t e size)
    {base : Nat} {A : Option Addr} {n c : Nat} {xs : List Value} (hown : W.ownsRow base e size (.slice A n c) n xs) {us : List Value} {g : Nat}
    (hus : us.length = size) (h1 : ∀ u ∈ us, u.oneCell' = true) (hblk : W.heap[g]? = some (.cells us.toArray e (0, 0))) (hbw : base ≤ W.heap.size) (hn : n < 1099511627776) :
    ∃ A' c' w', (Builtin.append_ #[t, t] ty #[.slice A n c, .slice (some ⟨g, 0, none⟩) 1 1]).run P W = .ok (.slice A' (n + 1) c') w' ∧ w'.ownsRow base e size (.slice A' (n + 1) c') (n + 1) (xs ++ us) ∧ W.grownBy w' (Value.slice A n c).ownBlock ∧
      ((Value.slice A' (n + 1) c').ownBlock = (Value.slice A n c).ownBlock ∨ (Value.slice A' (n + 1) c').ownBlock = some W.heap.size) := by
  obtain ⟨i, z, hi, hz, hsz, hby, hzs⟩ := T.info
  obtain ⟨v', w', hr, h2, h3, _, h5⟩ := run_append_own_at (P := P) W base t ty e i z size i.bytes T.und hi hz hsz rfl hzs T.pos (.slice A n c) n xs hown ⟨g, 0, none⟩ 1 1 us (by simpa using hus) (fun j u hu => by
    have ha : (⟨g, 0, none⟩ : Addr).add j = ⟨g, j, none⟩ := by unfold Addr.add; split <;> simp_all
    rw [ha, cell_of_row W g j us.toArray e (0, 0) hblk]
    simpa using hu) h1 (by simp only [maxLen]; omega) (Nat.le_trans (Nat.mul_le_mul (show n + 1 ≤ 1099511627776 by omega) hby) (by omega)) hbw
  obtain ⟨A', c', rfl⟩ := own_slice h2
  exact ⟨A', c', w', hr, h2, h3, h5⟩
theorem push_at (hgd : o.guard = none) (s x : Operand) {t : TypeId} (ho : o.op = .call { callee := .builtin .append, args := #[s, x], argTypes := #[t, t] }) {e : TypeId} {size : Nat} (T : SlT P t e size)
    {base : Nat} {A : Option Addr} {n c : Nat} {xs : List Value} (hs : a.eval s = .slice A n c) (hown : W.ownsRow base e size (.slice A n c) n xs) {us : List Value} {g : Nat} (hx : a.eval x = .slice (some ⟨g, 0, none⟩) 1 1)
    (hus : us.length = size) (h1 : ∀ u ∈ us, u.oneCell' = true) (hblk : W.heap[g]? = some (.cells us.toArray e (0, 0))) (hbw : base ≤ W.heap.size) (hn : n < 1099511627776)
    (h : ∀ A' c' w', w'.ownsRow base e size (.slice A' (n + 1) c') (n + 1) (xs ++ us) → W.grownBy w' (Value.slice A n c).ownBlock → ((Value.slice A' (n + 1) c').ownBlock = (Value.slice A n c).ownBlock ∨ (Value.slice A' (n + 1) c').ownBlock = some W.heap.size) → wpList P ops Q rest (a.put o.dst (.slice A' (n + 1) c')) w') : wpList P ops Q (o :: rest) a W := by
  obtain ⟨A', c', w', hr, h2, h3, h5⟩ := run_push_at (P := P) (ty := o.type) T hown hus h1 hblk hbw hn
  refine wpList_plain hgd fun K hK => ?_
  unfold Oper.wp
  simp [execOp, ho, resolve, invoke, builtin, hs, hx, hr, Result.andThen]
  exact hK _ _ (h A' c' w' h2 h3 h5)
theorem step_push_at {K : Act → World → Prop} {E : Prop} (hgd : o.guard = none) (s x : Operand) {t : TypeId} (ho : o.op = .call { callee := .builtin .append, args := #[s, x], argTypes := #[t, t] }) {e : TypeId} {size : Nat} (T : SlT P t e size)
    {base : Nat} {A : Option Addr} {n c : Nat} {xs : List Value} (hs : a.eval s = .slice A n c) (hown : W.ownsRow base e size (.slice A n c) n xs) {us : List Value} {g : Nat} (hx : a.eval x = .slice (some ⟨g, 0, none⟩) 1 1)
    (hus : us.length = size) (h1 : ∀ u ∈ us, u.oneCell' = true) (hblk : W.heap[g]? = some (.cells us.toArray e (0, 0))) (hbw : base ≤ W.heap.size) (hn : n < 1099511627776)
    (h : ∀ A' c' w', w'.ownsRow base e size (.slice A' (n + 1) c') (n + 1) (xs ++ us) → W.grownBy w' (Value.slice A n c).ownBlock → ((Value.slice A' (n + 1) c').ownBlock = (Value.slice A n c).ownBlock ∨ (Value.slice A' (n + 1) c').ownBlock = some W.heap.size) → K (a.put o.dst (.slice A' (n + 1) c')) w') :
    if Region.wanted o (yielded ops a.tmps) = true then Oper.wp P o a W K Q else E := by
  obtain ⟨A', c', w', hr, h2, h3, h5⟩ := run_push_at (P := P) (ty := o.type) T hown hus h1 hblk hbw hn
  have hw : Region.wanted o (yielded ops a.tmps) = true := by simp [Region.wanted, hgd]
  rw [if_pos hw]
  unfold Oper.wp
  simp [execOp, ho, resolve, invoke, builtin, hs, hx, hr, Result.andThen]
  exact h A' c' w' h2 h3 h5
end
theorem own_lt {base : Nat} {e : TypeId} {size n : Nat} {v : Value} {xs : List Value} {w : World} (h : w.ownsRow base e size v n xs) {g : Nat} (hg : v.ownBlock = some g) : g < w.heap.size := by
  obtain ⟨cur, hc⟩ := row_type h hg
  exact (Array.getElem?_eq_some_iff.1 hc).1
theorem own_ge {base : Nat} {e : TypeId} {size n : Nat} {v : Value} {xs : List Value} {w : World} (h : w.ownsRow base e size v n xs) {g : Nat} (hg : v.ownBlock = some g) : base ≤ g := by
  rcases h.2 with ⟨rfl, _⟩ | ⟨g', cap, cur, rfl, hb, _⟩
  · simp [Value.ownBlock] at hg
  · simp [Value.ownBlock] at hg
    omega
/-- Two rows of a call's own apart. -/
def Apart (v u : Value) : Prop := ∀ g, v.ownBlock = some g → u.ownBlock ≠ some g
theorem Apart.flip {v u : Value} (h : Apart v u) : Apart u v := fun g hg hv => h g hv hg
theorem Apart.ne {v u : Value} (h : Apart v u) : v.ownBlock = none ∨ v.ownBlock ≠ u.ownBlock := by
  cases hv : v.ownBlock with
  | none => exact Or.inl rfl
  | some g => exact Or.inr (fun e => h g hv e.symm)
theorem Apart.push {v u u' : Value} {W : World} (h : Apart v u) (hlt : ∀ g, v.ownBlock = some g → g < W.heap.size) (hu : u'.ownBlock = u.ownBlock ∨ u'.ownBlock = some W.heap.size) : Apart v u' := fun g hg => by
  rcases hu with e | e
  · rw [e]; exact h g hg
  · rw [e]
    intro h2
    injection h2 with h2
    have := hlt g hg
    omega
def idxOf (p : Nat → Bool) (l : List Nat) : Int := match l.findIdx? p with | some c => (c : Int) | none => -1
theorem idx_found {p : Nat → Bool} {l : List Nat} {j : Nat} {x : Nat} (hx : l[j]? = some x) (hp : p x = true) (hno : ∀ k y, k < j → l[k]? = some y → p y = false) : idxOf p l = (j : Int) := by
  obtain ⟨hj, hx'⟩ := List.getElem?_eq_some_iff.1 hx
  have h : l.findIdx? p = some j := by
    rw [List.findIdx?_eq_some_iff_getElem]
    refine ⟨hj, by rw [hx']; exact hp, fun k hk => ?_⟩
    rw [hno k _ hk (List.getElem?_eq_getElem (by omega))]
    simp
  unfold idxOf
  rw [h]
theorem idx_none {p : Nat → Bool} {l : List Nat} (hno : ∀ k y, k < l.length → l[k]? = some y → p y = false) : idxOf p l = -1 := by
  have h : l.findIdx? p = none := by
    rw [List.findIdx?_eq_none_iff]
    intro y hy
    obtain ⟨k, hk, e⟩ := List.mem_iff_getElem.1 hy
    exact hno k y hk (by rw [List.getElem?_eq_getElem hk, e])
  unfold idxOf
  rw [h]
set_option maxRecDepth 100000 in
set_option maxHeartbeats 2000000 in
theorem IndexFunc_c (A : Option Addr) (c : Nat) (l : List Nat) (b1 b2 : Nat) (p : Nat → Bool) (w : World) (hA : Rd w 1 A l.length (nints l)) (hl : l.length ≤ 40)
    (hp : ∀ x ∈ l, ∀ W, Below w.heap.size w W → Calls Try.prog 142 #[.int .i64 (x : Int), .pointer (some ⟨b1, 0, none⟩), .pointer (some ⟨b2, 0, none⟩)] W fun e w' => e = .returned (.bool (p x)) ∧ Below W.heap.size W w') :
    Calls Try.prog 141 #[.slice A l.length c, .func (.func 142) #[] #[.pointer (some ⟨b1, 0, none⟩), .pointer (some ⟨b2, 0, none⟩)]] w fun e w' => e = .returned (.int .i64 (idxOf p l)) ∧ Below w.heap.size w w' := by
  have HA := Lib.hid hA
  have HP := Lib.hid hp
  have HF := Lib.hid (fun j x => idx_found (p := p) (l := l) (j := j) (x := x))
  have HN := Lib.hid (idx_none (p := p) (l := l))
  generalize hln : l.length = n at *
  clear hA hp
  generalize idxOf p l = res at *
  go_enter Try.func141, Try.ntmps141
  go_wp2_with fail
  go_loopw [8] (fun z wr => ∃ j : Nat, j ≤ n ∧ z = .int .i64 (j : Int) ∧ (∀ k y, k < j → l[k]? = some y → p y = false) ∧ Below w.heap.size w wr) (fun z _ => n - (intOf z).toNat)
  case atStart => exact ⟨0, by omega, rfl, fun k y h => absurd h (by omega), Below.refl _ _⟩
  case round =>
    obtain ⟨j, hj, rfl, hno, hb⟩ := hrel
    have HNO := Lib.hid hno
    have HB := Lib.hid hb
    clear hno hb
    by_cases hlt : j < n
    case neg =>
      obtain rfl : j = n := by omega
      have HE := Lib.hid (HN.out HNO.out)
      go_wp2_with fail
      go_ret
      exact ⟨by rw [HE.out]; rfl, HB.out⟩
    case pos =>
      obtain ⟨x, hx⟩ : ∃ x, l[j]? = some x := ⟨_, List.getElem?_eq_getElem (by omega)⟩
      have HX := Lib.hid hx
      obtain ⟨b, o, rfl, hcs⟩ := (HA.out.below HB.out).2 (by omega)
      have cx := hcs j _ (nints_at hx)
      have HPx := Lib.hid (HP.out x (List.mem_of_getElem? hx) wr HB.out)
      have hji : (j : Int) < (n : Int) := by omega
      clear hcs hx
      cases hpx : p x with
      | true =>
        have HE := Lib.hid (HF.out _ _ HX.out hpx HNO.out)
        rw [hpx] at HPx
        clear hpx
        go_wp2_with fail
        refine HPx.out.mono ?_
        rintro e w1 ⟨rfl, hb⟩
        have HB1 := Lib.hid (HB.out.trans (hb.mono HB.out.size))
        clear hb cx
        go_wp2_with fail
        go_ret
        exact ⟨by rw [HE.out]; rfl, HB1.out⟩
      | false =>
        have HNO1 : Hid (∀ k y, k < j + 1 → l[k]? = some y → p y = false) := Lib.hid (fun k y hk hy => by
          by_cases e : k = j
          · subst e
            rw [HX.out] at hy
            injection hy with hy
            subst hy
            exact hpx
          · exact HNO.out k y (by omega) hy)
        rw [hpx] at HPx
        clear hpx
        go_wp2_with fail
        refine HPx.out.mono ?_
        rintro e w1 ⟨rfl, hb⟩
        have HB1 := Lib.hid (HB.out.trans (hb.mono HB.out.size))
        clear hb cx
        go_wp2_with fail
        go_roundw
        case rel => exact ⟨j + 1, by omega, by go_num, HNO1.out, HB1.out⟩
        case measure => simp [intOf] <;> omega
set_option maxRecDepth 100000 in
set_option maxHeartbeats 1000000 in
theorem numbered1_c (bk b1 b2 i x : Nat) (v : Bool) (w : World) (h1 : w.cell? ⟨b1, 0, none⟩ = some (.func (.func 92) #[] #[.pointer (some ⟨bk, 0, none⟩)])) (h2 : w.cell? ⟨b2, 0, none⟩ = some (.int .i64 (i : Int)))
    (hc : Calls Try.prog 92 #[.int .i64 (i : Int), .int .i64 (x : Int), .pointer (some ⟨bk, 0, none⟩)] w fun e w' => e = .returned (.bool v) ∧ Below w.heap.size w w') :
    Calls Try.prog 142 #[.int .i64 (x : Int), .pointer (some ⟨b1, 0, none⟩), .pointer (some ⟨b2, 0, none⟩)] w fun e w' => e = .returned (.bool v) ∧ Below w.heap.size w w' := by
  have HC := Lib.hid hc
  clear hc
  go_enter Try.func142, Try.ntmps142
  go_wp2_with fail
  refine HC.out.mono ?_
  rintro e w1 ⟨rfl, hb⟩
  go_wp2_with fail
  go_ret
  exact ⟨rfl, hb⟩
theorem idx_some {p : Nat → Bool} {l : List Nat} {c : Nat} (h : l.findIdx? p = some c) : idxOf p l = (c : Int) := by unfold idxOf; rw [h]
theorem idx_no {p : Nat → Bool} {l : List Nat} (h : l.findIdx? p = none) : idxOf p l = -1 := by unfold idxOf; rw [h]
set_option maxRecDepth 100000 in
set_option maxHeartbeats 4000000 in
theorem numbered_c (n bk : Nat) (key : Nat → List Int) (w : World) (hn : n ≤ 40)
    (hc : ∀ i k, i < n → k < n → ∀ W, Below w.heap.size w W → Calls Try.prog 92 #[.int .i64 (i : Int), .int .i64 (k : Int), .pointer (some ⟨bk, 0, none⟩)] W fun e w' => e = .returned (.bool (decide (key i = key k))) ∧ Below W.heap.size W w') :
    Calls Try.prog 91 #[.int .i64 (n : Int), .func (.func 92) #[] #[.pointer (some ⟨bk, 0, none⟩)]] w (RetRd (fun A c => .slice A n c) 1 n (nints (M.cls key n).2) w) := by
  have HC := Lib.hid hc
  have HI := Lib.hid (cls_inv key)
  have hmf : ∀ (fn : Fn) (first cap : Array Value) (w : World), (Instr.makeFunc fn first cap).run Try.prog w = .ok (.func fn first cap) w := fun _ _ _ _ => rfl
  clear hc
  go_enter Try.func91, Try.ntmps91
  go_wp2_with fail
  have C0 := Lib.hid (show (w.alloc (.cells #[.func (.func 92) #[] #[.pointer (some ⟨bk, 0, none⟩)]] 114)).cell? ⟨w.heap.size, 0, none⟩ = some (.func (.func 92) #[] #[.pointer (some ⟨bk, 0, none⟩)]) by simp [go_sem])
  have T0 := Lib.hid (show Below w.heap.size w (w.alloc (.cells #[.func (.func 92) #[] #[.pointer (some ⟨bk, 0, none⟩)]] 114)) from (Below.refl _ _).alloc (Nat.le_refl _) _)
  generalize w.alloc (.cells #[.func (.func 92) #[] #[.pointer (some ⟨bk, 0, none⟩)]] 114) = w0 at *
  go_loopw [5, 6, 10] (fun s t z wr => ∃ (i f : Nat) (A1 A2 : Option Addr) (c1 c2 : Nat), i ≤ n ∧ z = .int .i64 (i : Int) ∧ f = (M.cls key i).1.length ∧ s = .slice A1 i c1 ∧ t = .slice A2 f c2 ∧ wr.ownsRow w0.heap.size 3 1 (.slice A1 i c1) i (nints (M.cls key i).2) ∧ wr.ownsRow w0.heap.size 3 1 (.slice A2 f c2) f (nints (M.cls key i).1) ∧ Apart (.slice A1 i c1) (.slice A2 f c2) ∧ Below w0.heap.size w0 wr) (fun _ _ z _ => n - (intOf z).toNat)
  case atStart => exact ⟨0, 0, none, none, 0, 0, by omega, rfl, rfl, rfl, rfl, World.ownsRow_nil _ _ _ _, World.ownsRow_nil _ _ _ _, fun g h => by simp [Value.ownBlock] at h, Below.refl _ _⟩
  case round =>
    obtain ⟨i, f, A1, A2, c1, c2, hi, rfl, hf, rfl, rfl, hown1, hown2, hap, hb⟩ := hrel
    have HO1 := Lib.hid hown1
    have HO2 := Lib.hid hown2
    have HAP := Lib.hid hap
    have HB := Lib.hid hb
    have HF := Lib.hid hf
    have hfi : f ≤ i := by have := (HI.out i).most; omega
    clear hown1 hown2 hap hb hf
    by_cases hlt : i < n
    case neg =>
      obtain rfl : i = n := by omega
      go_wp2_with fail
      go_ret
      exact ⟨A1, c1, rfl, (Own.of_row HO1.out).mono T0.out.size, T0.out.trans (HB.out.mono T0.out.size)⟩
    case pos =>
    have c0 := cellKeep HB.out C0.out
    have BA := Lib.hid ((Below.refl wr.heap.size wr).alloc (Nat.le_refl _) (.cells #[.int .i64 (i : Int)] 3))
    have E1 := Lib.hid (cellKeep BA.out c0)
    have E2 := Lib.hid (show (wr.alloc (.cells #[.int .i64 (i : Int)] 3)).cell? ⟨wr.heap.size, 0, none⟩ = some (.int .i64 (i : Int)) by simp [go_sem])
    have HB1 := Lib.hid (HB.out.trans (BA.out.mono HB.out.size))
    have P1 := Lib.hid (own_below HO1.out BA.out)
    have P2 := Lib.hid (own_below HO2.out BA.out)
    have HIX := Lib.hid (show Calls Try.prog 141 #[.slice A2 f c2, .func (.func 142) #[] #[.pointer (some ⟨w.heap.size, 0, none⟩), .pointer (some ⟨wr.heap.size, 0, none⟩)]] (wr.alloc (.cells #[.int .i64 (i : Int)] 3)) (fun e w' => e = .returned (.int .i64 (idxOf (fun f => decide (key i = key f)) (M.cls key i).1)) ∧ Below (wr.alloc (.cells #[.int .i64 (i : Int)] 3)).heap.size (wr.alloc (.cells #[.int .i64 (i : Int)] 3)) w') from by
      rw [HF.out]
      refine IndexFunc_c A2 c2 (M.cls key i).1 w.heap.size wr.heap.size (fun f => decide (key i = key f)) _ (by have h := P2.out; rw [HF.out] at h; exact Rd.of_own h) (by have := HF.out; omega) (fun x hx W hW => ?_)
      exact numbered1_c bk w.heap.size wr.heap.size i x _ W (cellKeep hW E1.out) (cellKeep hW E2.out) (HC.out i x hlt (by have := (HI.out i).lt x hx; omega) W (T0.out.trans ((HB1.out.trans (hW.mono HB1.out.size)).mono T0.out.size))))
    clear c0
    cases hfd : (M.cls key i).1.findIdx? (fun f => decide (key i = key f)) with
    | some cl =>
      have HS := Lib.hid (cls_found hfd)
      rw [idx_some hfd] at HIX
      have hcl : ¬ ((cl : Int) < 0) := by omega
      clear hfd
      go_wp2_with fail
      refine HIX.out.mono ?_
      rintro e w1 ⟨rfl, hb⟩
      have HBw := Lib.hid (HB1.out.trans (hb.mono HB1.out.size))
      have BB := Lib.hid ((Below.refl w1.heap.size w1).alloc (Nat.le_refl _) (.cells #[.int .i64 (cl : Int)] 3))
      have Q1 := Lib.hid (own_below (own_below P1.out hb) BB.out)
      have Q2 := Lib.hid (own_below (own_below P2.out hb) BB.out)
      have HB2 := Lib.hid (HBw.out.trans (BB.out.mono HBw.out.size))
      clear hb
      go_wp2_with (at_builtin; refine push_at rfl (.tmp 24) (.tmp 26) rfl slInt rfl Q1.out (us := [.int .i64 (cl : Int)]) rfl rfl (by simp [Value.oneCell']) (heap_alloc_new _ _) HB2.out.size (by omega) ?_; intro A5 c5 w5 hown5 hg5 hat5)
      have R2 := Lib.hid (Q2.out.kept hg5 HAP.out.flip.ne)
      have HB5 := Lib.hid (HB2.out.grown hg5 HB2.out.size (fun k hk => own_ge Q1.out hk))
      have HA5 := Lib.hid ((Apart.push HAP.out.flip (fun g hg => own_lt Q2.out hg) hat5).flip)
      go_roundw
      case rel => exact ⟨i + 1, f, A5, A2, c5, c2, by omega, by go_num, by rw [HS.out]; exact HF.out, rfl, rfl, by rw [HS.out, nints_snoc]; exact hown5, by rw [HS.out]; exact R2.out, HA5.out, HB5.out⟩
      case measure => simp [intOf] <;> omega
    | none =>
      have HS := Lib.hid (cls_none hfd)
      rw [idx_no hfd] at HIX
      clear hfd
      go_wp2_with fail
      refine HIX.out.mono ?_
      rintro e w1 ⟨rfl, hb⟩
      have HBw := Lib.hid (HB1.out.trans (hb.mono HB1.out.size))
      have e2 := cellKeep hb E2.out
      have BB := Lib.hid ((Below.refl w1.heap.size w1).alloc (Nat.le_refl _) (.cells #[.int .i64 (i : Int)] 3))
      have Q1 := Lib.hid (own_below (own_below P1.out hb) BB.out)
      have Q2 := Lib.hid (own_below (own_below P2.out hb) BB.out)
      have HB2 := Lib.hid (HBw.out.trans (BB.out.mono HBw.out.size))
      clear hb
      go_wp2_with (first
        | (at_builtin; refine push_at rfl (.tmp 20) (.tmp 22) rfl slInt rfl Q2.out (us := [.int .i64 (i : Int)]) rfl rfl (by simp [Value.oneCell']) (heap_alloc_new _ _) HB2.out.size (by omega) ?_; intro A5 c5 w5 hown5 hg5 hat5;
            have R1 := Lib.hid (Q1.out.kept hg5 HAP.out.ne); have HB5 := Lib.hid (HB2.out.grown hg5 HB2.out.size (fun k hk => own_ge Q2.out hk)); have HA5 := Lib.hid (Apart.push HAP.out (fun g hg => own_lt Q1.out hg) hat5); have R2 := Lib.hid hown5;
            have BC := Lib.hid ((Below.refl w5.heap.size w5).alloc (Nat.le_refl _) (.cells #[.int .i64 (f : Int)] 3)); have S1 := Lib.hid (own_below R1.out BC.out); have S2 := Lib.hid (own_below R2.out BC.out); have HB6 := Lib.hid (HB5.out.trans (BC.out.mono HB5.out.size)); clear hown5 hg5 hat5)
        | (at_builtin; refine push_at rfl (.tmp 24) (.tmp 26) rfl slInt rfl S1.out (us := [.int .i64 (f : Int)]) rfl rfl (by simp [Value.oneCell']) (heap_alloc_new _ _) HB6.out.size (by omega) ?_; intro A7 c7 w7 hown7 hg7 hat7))
      have U2 := Lib.hid (S2.out.kept hg7 HA5.out.flip.ne)
      have HB7 := Lib.hid (HB6.out.grown hg7 HB6.out.size (fun k hk => own_ge S1.out hk))
      have HA7 := Lib.hid ((Apart.push HA5.out.flip (fun g hg => own_lt S2.out hg) hat7).flip)
      go_roundw
      case rel => exact ⟨i + 1, f + 1, A7, A5, c7, c5, by omega, by go_num, by rw [HS.out, List.length_append, ← HF.out]; rfl, rfl, rfl, by rw [HS.out, nints_snoc, ← HF.out]; exact hown7, by rw [HS.out, nints_snoc]; exact U2.out, HA7.out, HB7.out⟩
      case measure => simp [intOf] <;> omega
end Go.Proofs.Ytlohpphmamapeaa
