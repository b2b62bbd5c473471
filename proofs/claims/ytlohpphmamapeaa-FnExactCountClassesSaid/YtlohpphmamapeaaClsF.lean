/-
  Contracts of ClassesOf and CountClasses, of the program and of the reference.
  Conditions: at most 2^20 entries.
-/
import Derived.Test.YtlohpphmamapeaaClsJ
import Derived.Test.YtlohpphmamapeaaThose
namespace Go.Proofs.Ytlohpphmamapeaa
open Go.RowKit
set_option linter.unusedVariables false
set_option linter.unusedSimpArgs false

theorem classes_bad {k : Int} {xs : List Int} {kind : Int} (h : ¬ (M.TableOk k xs = true ∧ 1 ≤ kind ∧ kind ≤ 4)) : M.ClassesOf k xs kind = [] := if_neg h
theorem classes_ok {n : Nat} {xs : List Int} {kind : Int} (h : M.TableOk n xs = true ∧ 1 ≤ kind ∧ kind ≤ 4) : M.ClassesOf n xs kind = (M.cls (M.key n xs kind) n).2.map Int.ofNat ∧ (M.ClassesOf n xs kind).length = n := by
  have e : M.ClassesOf n xs kind = (M.cls (M.key n xs kind) n).2.map Int.ofNat := by unfold M.ClassesOf; rw [if_pos h, Int.toNat_natCast]
  exact ⟨e, by rw [e, List.length_map, (cls_inv _ _).len]⟩
theorem classes_of {C : Prop} {k : Int} {xs : List Int} {kind : Int} (hb : ¬ (M.TableOk k xs = true ∧ 1 ≤ kind ∧ kind ≤ 4) → C) (ho : ∀ n : Nat, k = n → M.TableOk n xs = true → 1 ≤ kind ∧ kind ≤ 4 → 1 ≤ n → C) : C := by
  by_cases h : M.TableOk k xs = true ∧ 1 ≤ kind ∧ kind ≤ 4
  · have hk := (tableOk_of h.1).1
    obtain ⟨n, rfl⟩ : ∃ n : Nat, k = n := ⟨k.toNat, by omega⟩
    exact ho n rfl h.1 h.2 (by omega)
  · exact hb h
def M.countOf (l : List Int) : Int := l.foldl (fun n x => max n (x + 1)) 0
def M.CountClasses (k : Int) (xs : List Int) (kind : Int) : Int := M.countOf (M.ClassesOf k xs kind)
theorem fold_shift : ∀ (l : List Int) (a : Int), l.foldl (fun n x => max n (x + 1)) (a + 1) = l.foldl max a + 1
  | [], a => rfl
  | x :: l, a => by
    rw [List.foldl_cons, List.foldl_cons, ← fold_shift l (max a x)]
    congr 1
    omega
theorem countOf_max {x : Int} {l : List Int} (h : 0 ≤ x) : M.countOf (x :: l) = Lib.maxOf (x :: l) + 1 := by
  unfold M.countOf Lib.maxOf
  rw [List.foldl_cons, List.foldl_cons, List.headD_cons, ← fold_shift, Int.max_self]
  congr 1
  omega
theorem countOf_le : ∀ (l : List Int) (a b : Int), a ≤ b → (∀ x ∈ l, x < b) → l.foldl (fun n x => max n (x + 1)) a ≤ b
  | [], a, b, h, _ => h
  | x :: l, a, b, h, hl => by
    rw [List.foldl_cons]
    exact countOf_le l _ b (by have := hl x (by simp); omega) (fun y hy => hl y (by simp [hy]))
theorem countOf_snoc {l : List Int} {j : Nat} (hj : j < l.length) : M.countOf (l.take (j + 1)) = max (M.countOf (l.take j)) (l[j] + 1) := by
  unfold M.countOf
  rw [List.take_succ_eq_append_getElem hj, List.foldl_append]
  rfl
theorem countOf_nonneg (l : List Int) : 0 ≤ M.countOf l := by
  have h : ∀ (l : List Int) (a : Int), a ≤ l.foldl (fun n x => max n (x + 1)) a := fun l => by
    induction l with
    | nil => intro a; exact Int.le_refl a
    | cons x l ih =>
      intro a
      rw [List.foldl_cons]
      have := ih (max a (x + 1))
      omega
  exact h l 0
theorem classes_in {n : Nat} {xs : List Int} {kind : Int} (h : M.TableOk n xs = true ∧ 1 ≤ kind ∧ kind ≤ 4) : ∀ x ∈ M.ClassesOf n xs kind, 0 ≤ x ∧ x < 40 := fun x hx => by
  rw [(classes_ok h).1] at hx
  obtain ⟨c, hc, rfl⟩ := List.mem_map.1 hx
  obtain ⟨j, hj, e⟩ := List.mem_iff_getElem.1 hc
  have h1 := (cls_inv (M.key n xs kind) n).bound (show (M.cls (M.key n xs kind) n).2[j]? = some c by rw [List.getElem?_eq_getElem hj, e])
  have h2 := (cls_inv (M.key n xs kind) n).most
  have h3 := (tableOk_of h.1).1
  simp only [Int.ofNat_eq_natCast]
  omega
theorem impl_ClassesOf_c (k : Int) (A : Option Addr) (c : Nat) (xs : List Int) (kind : Int) (w : World) (hA : Rd w 1 A xs.length (ints xs)) (hl : xs.length ≤ 1048576) :
    Calls Try.prog 38 #[.agg #[.int .i64 k, .slice A xs.length c], .int .i64 kind] w (RetRd (fun A c => .slice A (M.ClassesOf k xs kind).length c) 1 (M.ClassesOf k xs kind).length (ints (M.ClassesOf k xs kind)) w) := by
  refine classes_of (k := k) (xs := xs) (kind := kind) (fun h => ?_) (fun n hn h h' _ => ?_)
  · rw [classes_bad h]
    refine (impl_ClassesOf_bad k A c xs kind w hA hl h).mono ?_
    rintro e w' ⟨rfl, hb⟩
    exact ⟨none, 0, rfl, ⟨rfl, fun h => absurd h (by simp)⟩, hb⟩
  · subst hn
    rw [(classes_ok ⟨h, h'⟩).2, (classes_ok ⟨h, h'⟩).1]
    exact impl_ClassesOf_ok n A c xs kind w hA hl h h'
theorem spec_ClassesOf_c (k : Int) (A : Option Addr) (c : Nat) (xs : List Int) (kind : Int) (w : World) (hA : Rd w 1 A xs.length (ints xs)) (hl : xs.length ≤ 1048576) :
    Calls Try.prog 37 #[.agg #[.int .i64 k, .slice A xs.length c], .int .i64 kind] w (RetRd (fun A c => .slice A (M.ClassesOf k xs kind).length c) 1 (M.ClassesOf k xs kind).length (ints (M.ClassesOf k xs kind)) w) := by
  refine classes_of (k := k) (xs := xs) (kind := kind) (fun h => ?_) (fun n hn h h' _ => ?_)
  · rw [classes_bad h]
    refine (spec_ClassesOf_bad k A c xs kind w hA hl h).mono ?_
    rintro e w' ⟨rfl, hb⟩
    exact ⟨none, 0, rfl, ⟨rfl, fun h => absurd h (by simp)⟩, hb⟩
  · subst hn
    rw [(classes_ok ⟨h, h'⟩).2, (classes_ok ⟨h, h'⟩).1]
    exact spec_ClassesOf_ok n A c xs kind w hA hl h h'
set_option maxRecDepth 100000 in
set_option maxHeartbeats 2000000 in
theorem impl_CountClasses_c (k : Int) (A : Option Addr) (c : Nat) (xs : List Int) (kind : Int) (w : World) (hA : Rd w 1 A xs.length (ints xs)) (hl : xs.length ≤ 1048576) :
    Calls Try.prog 40 #[.agg #[.int .i64 k, .slice A xs.length c], .int .i64 kind] w fun e w' => e = .returned (.int .i64 (M.CountClasses k xs kind)) ∧ Below w.heap.size w w' := by
  have HP := Lib.hid ((Below.refl w.heap.size w).alloc (Nat.le_refl _) (.cells #[.int .i64 k, .slice A xs.length c] 40))
  refine classes_of (k := k) (xs := xs) (kind := kind) (fun h => ?_) (fun n hn h h' hn1 => ?_)
  · have h1 := Lib.hid (impl_ClassesOf_bad k A c xs kind _ (hA.below HP.out) hl h)
    have e : M.CountClasses k xs kind = 0 := by unfold M.CountClasses; rw [classes_bad h]; rfl
    rw [e]
    clear hA hl h e
    generalize xs.length = xl at *
    have q := fun W => Lib.run_eql_slice_nil (P := Try.prog) W 35 _ none 0 0 0 0 Try.underlying35
    go_enter Try.func40, Try.ntmps40
    go_wp2_with fail
    refine h1.out.mono ?_
    rintro e w1 ⟨rfl, hb⟩
    go_wp2_with fail
    go_ret
    exact ⟨rfl, below_alloc1 hb⟩
  · subst hn
    have h1 := Lib.hid (impl_ClassesOf_c n A c xs kind _ (hA.below HP.out) hl)
    have hlen := (classes_ok ⟨h, h'⟩).2
    have hin := classes_in ⟨h, h'⟩
    have HC := Lib.hid (show M.CountClasses n xs kind = Lib.maxOf (M.ClassesOf n xs kind) + 1 by
      unfold M.CountClasses
      cases hc : M.ClassesOf n xs kind with
      | nil => rw [hc] at hlen; simp at hlen; omega
      | cons x l => exact countOf_max (hin x (by rw [hc]; simp)).1)
    have HB := Lib.hid (show M.CountClasses n xs kind ≤ 40 from countOf_le _ _ _ (by omega) (fun x hx => (hin x hx).2))
    have HN := Lib.hid (show 0 ≤ M.CountClasses n xs kind from countOf_nonneg _)
    have hn40 := (tableOk_of h).1
    generalize M.CountClasses n xs kind = v at *
    generalize M.ClassesOf n xs kind = zs at *
    clear hA hl h h' hin
    generalize xs.length = xl at *
    rw [hlen] at h1
    go_enter Try.func40, Try.ntmps40
    go_wp2_with fail
    refine h1.out.mono ?_
    rintro e w1 ⟨A1, c1, rfl, ho, hb⟩
    obtain ⟨b, o, hA1, hcs⟩ := ho.rd.2 (by omega)
    subst hA1
    have HM := Lib.hid (Try.slices_Max_int b o n c1 zs w1 (by omega) (by omega) (by omega) (fun j hj => by
      rw [hcs j _ (ints_at hj), List.getD_eq_getElem?_getD, List.getElem?_eq_getElem hj]
      rfl))
    rw [List.take_of_length_le (by omega)] at HM
    have hmx : 0 ≤ Lib.maxOf zs + 1 ∧ Lib.maxOf zs + 1 ≤ 40 := by rw [← HC.out]; exact ⟨HN.out, HB.out⟩
    generalize Lib.maxOf zs = mx at *
    have q := fun W => Lib.run_eql_slice_nil (P := Try.prog) W 35 _ (some ⟨b, o, none⟩) n c1 0 0 Try.underlying35
    have HB1 := Lib.hid (below_alloc1 hb)
    clear ho hb hcs hlen
    go_wp2_with fail
    refine HM.out.mono ?_
    rintro e w2 ⟨rfl, rfl⟩
    go_wp2_with fail
    go_ret
    exact ⟨by rw [HC.out]; rfl, HB1.out⟩
set_option maxRecDepth 100000 in
set_option maxHeartbeats 2000000 in
theorem spec_CountClasses_c (k : Int) (A : Option Addr) (c : Nat) (xs : List Int) (kind : Int) (w : World) (hA : Rd w 1 A xs.length (ints xs)) (hl : xs.length ≤ 1048576) :
    Calls Try.prog 39 #[.agg #[.int .i64 k, .slice A xs.length c], .int .i64 kind] w fun e w' => e = .returned (.int .i64 (M.CountClasses k xs kind)) ∧ Below w.heap.size w w' := by
  have HP := Lib.hid ((Below.refl w.heap.size w).alloc (Nat.le_refl _) (.cells #[.int .i64 k, .slice A xs.length c] 40))
  have h1 := Lib.hid (spec_ClassesOf_c k A c xs kind _ (hA.below HP.out) hl)
  have hzl := classes_len k xs kind
  have HIN := Lib.hid (show ∀ x ∈ M.ClassesOf k xs kind, 0 ≤ x ∧ x < 40 from classes_of (k := k) (xs := xs) (kind := kind) (fun h x hx => by rw [classes_bad h] at hx; simp at hx) (fun n hn h h' _ => by subst hn; exact classes_in ⟨h, h'⟩))
  unfold M.CountClasses
  generalize M.ClassesOf k xs kind = zs at *
  clear hA hl
  generalize xs.length = xl at *
  obtain ⟨n, hn⟩ : ∃ n, n = zs.length := ⟨_, rfl⟩
  have HN := Lib.hid hn
  rw [← hn] at h1 hzl
  clear hn
  go_enter Try.func39, Try.ntmps39
  go_wp2_with fail
  refine h1.out.mono ?_
  rintro e w1 ⟨A1, c1, rfl, ho, hb⟩
  have HO := Lib.hid ho.rd
  have HB1 := Lib.hid (below_alloc1 hb)
  clear ho hb
  have HZ := Lib.hid (show M.countOf (zs.take 0) = 0 from rfl)
  go_wp2_with fail
  go_loop [5, 12] (fun s z => ∃ j : Nat, j ≤ n ∧ z = .int .i64 (j : Int) ∧ s = .int .i64 (M.countOf (zs.take j))) (fun _ z => n - (intOf z).toNat)
  case atStart => exact ⟨0, by omega, rfl, by rw [HZ.out]⟩
  case round =>
    obtain ⟨j, hj, rfl, rfl⟩ := hrel
    by_cases hlt : j < n
    case neg =>
      obtain rfl : j = n := by omega
      have HE := Lib.hid (show M.countOf (zs.take j) = M.countOf zs by rw [HN.out, List.take_length])
      go_wp2_with fail
      go_ret
      exact ⟨by rw [HE.out]; rfl, HB1.out⟩
    case pos =>
      obtain ⟨b, o, rfl, hcs⟩ := HO.out.2 (by omega)
      have hjz : j < zs.length := by rw [← HN.out]; exact hlt
      have cj := hcs j _ (ints_at hjz)
      have HS := Lib.hid (countOf_snoc hjz)
      have hx := HIN.out zs[j] (List.getElem_mem hjz)
      have h0 := countOf_nonneg (zs.take j)
      have h40 : M.countOf (zs.take j) ≤ 40 := countOf_le _ _ _ (by omega) (fun y hy => (HIN.out y (List.mem_of_mem_take hy)).2)
      generalize hxx : zs[j] = x at *
      generalize M.countOf (zs.take j) = v at *
      have hji : (j : Int) < (n : Int) := by omega
      clear hcs hxx hjz
      rcases Int.lt_or_le v (x + 1) with hv | hv
      · have HM := Lib.hid (show max v (x + 1) = x + 1 by omega)
        go_wp2_with fail
        go_round
        case rel => exact ⟨j + 1, by omega, by go_num, by rw [HS.out, HM.out]⟩
        case measure => simp [intOf] <;> omega
      · have HM := Lib.hid (show max v (x + 1) = v by omega)
        go_wp2_with fail
        go_round
        case rel => exact ⟨j + 1, by omega, by go_num, by rw [HS.out, HM.out]⟩
        case measure => simp [intOf] <;> omega
end Go.Proofs.Ytlohpphmamapeaa
