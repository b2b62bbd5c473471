/-
  Contracts of PlacesOf, OverlapsOf and strings.HasPrefix.
  Conditions: lengths of at most 2^20.
-/
import Derived.Test.YtlohpphmamapeaaPush
namespace Go.Proofs.Ytlohpphmamapeaa
open Go.RowKit
set_option linter.unusedVariables false

set_option maxRecDepth 100000 in
set_option maxHeartbeats 1000000 in
theorem HasPrefix_c (l p : List UInt8) (w : World) (hl : l.length ≤ 1048576) (hp : p.length ≤ 1048576) :
    Calls Try.prog 175 #[.string ⟨l.toArray⟩, .string ⟨p.toArray⟩] w fun e w' => e = .returned (.bool (M.pre p l)) ∧ w = w' := by
  by_cases h : p.length ≤ l.length
  · obtain ⟨y, hy⟩ : ∃ y, y = l.take p.length := ⟨_, rfl⟩
    by_cases he : y = p
    · rw [show M.pre p l = true from decide_eq_true (by rw [← hy]; exact he)]
      have hy' := hy.symm.trans he
      clear hy he
      go_enter Try.func175, Try.ntmps175
      go_wp2
      go_ret
      exact ⟨rfl, rfl⟩
    · rw [show M.pre p l = false from decide_eq_false (by rw [← hy]; exact he)]
      have he' : (y == p) = false := by simpa using he
      have hy' := hy.symm
      clear hy he
      go_enter Try.func175, Try.ntmps175
      go_wp2
      go_ret
      exact ⟨rfl, rfl⟩
  · rw [M.pre_short (by omega)]
    go_enter Try.func175, Try.ntmps175
    go_wp2
    go_ret
    exact ⟨rfl, rfl⟩

set_option maxRecDepth 100000 in
set_option maxHeartbeats 1000000 in
theorem spec_PlacesOf_c (l p : List UInt8) (w : World) (hl : l.length ≤ 1048576) (hp : p.length ≤ 1048576) :
    Calls Try.prog 146 #[.string ⟨l.toArray⟩, .string ⟨p.toArray⟩] w (RetRow 3 1 (M.PlacesOf l p).length (ints (M.PlacesOf l p)) w) := by
  by_cases h0 : p = []
  · subst h0
    go_enter Try.func146, Try.ntmps146
    go_wp2
    go_ret
    exact ⟨none, 0, rfl, World.ownsRow_nil _ _ _ _, Below.refl _ _⟩
  · have hP : M.PlacesOf l p = M.sel (fun i => M.pre p (l.drop i)) l.length := if_neg h0
    rw [hP]
    have hp0 : 0 < p.length := by cases p with | nil => exact absurd rfl h0 | cons a r => simp
    have hp1 : (p == []) = false := by simpa using h0
    have hp2 : p.isEmpty = false := by simpa using h0
    clear hP h0
    go_enter Try.func146, Try.ntmps146
    go_wp2
    go_loopw [5, 6] (fun s i wr => ∃ (k : Nat) (A : Option Addr) (n c : Nat), k ≤ l.length ∧ i = .int .i64 k ∧ s = .slice A n c ∧ n ≤ k ∧ n = (M.sel (fun i => M.pre p (l.drop i)) k).length ∧ wr.ownsRow w.heap.size 3 1 (.slice A n c) n (ints (M.sel (fun i => M.pre p (l.drop i)) k)) ∧ Below w.heap.size w wr) (fun _ i _ => l.length - (intOf i).toNat)
    case atStart => exact ⟨0, _, 0, 0, by omega, rfl, rfl, by omega, rfl, World.ownsRow_lit w #[] 0 (Nat.le_refl _) (by simp [maxLen]) (by simp), (Below.refl _ _).alloc (Nat.le_refl _) _⟩
    case round =>
      obtain ⟨k, A, n, c, hk, rfl, rfl, hnk, hn, hown, hb⟩ := hrel
      have HN := Lib.hid hn
      have HO := Lib.hid hown
      have HB := Lib.hid hb
      clear hn hown hb
      by_cases hlt : k + p.length ≤ l.length
      · obtain ⟨y, hy⟩ : ∃ y, y = (l.drop k).take p.length := ⟨_, rfl⟩
        by_cases he : y = p
        · have HS := Lib.hid (M.sel_yes (p := fun i => M.pre p (l.drop i)) (k := k) (decide_eq_true (by rw [← hy]; exact he)))
          have hy' := hy.symm.trans he
          clear hy he
          go_wp2_with (at_builtin; refine push_law rfl _ _ rfl slInt rfl HO.out (us := [.int .i64 k]) rfl rfl (by simp [Value.oneCell']) HB.out rfl (by omega) ?_; intro A' c' w' hown' hb')
          go_roundw
          case rel => exact ⟨k + 1, A', n + 1, c', by omega, by go_num, rfl, by omega, by rw [HS.out, HN.out]; simp, by rw [HS.out, ints_add]; exact hown', hb'⟩
          case measure => simp [intOf]; omega
        · have HS := Lib.hid (M.sel_no (p := fun i => M.pre p (l.drop i)) (k := k) (decide_eq_false (by rw [← hy]; exact he)))
          have he' : (y == p) = false := by simpa using he
          have hy' := hy.symm
          clear hy he
          go_wp2
          go_roundw
          case rel => exact ⟨k + 1, A, n, c, by omega, by go_num, rfl, by omega, by rw [HS.out, HN.out], by rw [HS.out]; exact HO.out, HB.out⟩
          case measure => simp [intOf]; omega
      · have HS := Lib.hid (M.sel_more (p := fun i => M.pre p (l.drop i)) (k := k) l.length hk (fun j h1 h2 => M.pre_short (by simp; omega)))
        go_wp2
        go_ret
        exact ⟨A, c, by rw [HS.out, ← HN.out]; rfl, by rw [HS.out, ← HN.out]; exact HO.out, HB.out⟩

set_option maxRecDepth 100000 in
set_option maxHeartbeats 1000000 in
theorem impl_PlacesOf_c (l p : List UInt8) (w : World) (hl : l.length ≤ 1048576) (hp : p.length ≤ 1048576) :
    Calls Try.prog 151 #[.string ⟨l.toArray⟩, .string ⟨p.toArray⟩] w (RetRow 3 1 (M.PlacesOf l p).length (ints (M.PlacesOf l p)) w) := by
  by_cases h0 : p = []
  · subst h0
    go_enter Try.func151, Try.ntmps151
    go_wp2
    go_ret
    exact ⟨none, 0, rfl, World.ownsRow_nil _ _ _ _, Below.refl _ _⟩
  · have hP : M.PlacesOf l p = M.sel (fun i => M.pre p (l.drop i)) l.length := if_neg h0
    rw [hP]
    have hp1 : (p == []) = false := by simpa using h0
    have hp2 : p.isEmpty = false := by simpa using h0
    clear hP h0
    go_enter Try.func151, Try.ntmps151
    go_wp2
    go_loopw [5, 6, 11] (fun s _ i wr => ∃ (k : Nat) (A : Option Addr) (n c : Nat), k ≤ l.length ∧ i = .int .i64 k ∧ s = .slice A n c ∧ n ≤ k ∧ n = (M.sel (fun i => M.pre p (l.drop i)) k).length ∧ wr.ownsRow w.heap.size 3 1 (.slice A n c) n (ints (M.sel (fun i => M.pre p (l.drop i)) k)) ∧ Below w.heap.size w wr) (fun _ _ i _ => l.length - (intOf i).toNat)
    case atStart => exact ⟨0, none, 0, 0, by omega, rfl, rfl, by omega, rfl, World.ownsRow_nil _ _ _ _, Below.refl _ _⟩
    case round =>
      obtain ⟨k, A, n, c, hk, rfl, rfl, hnk, hn, hown, hb⟩ := hrel
      have HN := Lib.hid hn
      have HO := Lib.hid hown
      have HB := Lib.hid hb
      clear hn hown hb
      by_cases hlt : k < l.length
      · have HC := Lib.hid (fun W => HasPrefix_c (l.drop k) p W (by simp; omega) hp)
        cases he : M.pre p (l.drop k) with
        | true =>
          have HS := Lib.hid (M.sel_yes (p := fun i => M.pre p (l.drop i)) (k := k) he)
          have HE := Lib.hid he
          clear he
          go_wp2_with fail
          refine (HC.out _).mono ?_
          rw [HE.out]
          rintro e w1 ⟨rfl, rfl⟩
          go_wp2_with (at_builtin; refine push_law rfl _ _ rfl slInt rfl HO.out (us := [.int .i64 k]) rfl rfl (by simp [Value.oneCell']) HB.out rfl (by omega) ?_; intro A' c' w' hown' hb')
          go_roundw
          case rel => exact ⟨k + 1, A', n + 1, c', by omega, by go_num, rfl, by omega, by rw [HS.out, HN.out]; simp, by rw [HS.out, ints_add]; exact hown', hb'⟩
          case measure => simp [intOf]; omega
        | false =>
          have HS := Lib.hid (M.sel_no (p := fun i => M.pre p (l.drop i)) (k := k) he)
          have HE := Lib.hid he
          clear he
          go_wp2_with fail
          refine (HC.out _).mono ?_
          rw [HE.out]
          rintro e w1 ⟨rfl, rfl⟩
          go_wp2
          go_roundw
          case rel => exact ⟨k + 1, A, n, c, by omega, by go_num, rfl, by omega, by rw [HS.out, HN.out], by rw [HS.out]; exact HO.out, HB.out⟩
          case measure => simp [intOf]; omega
      · obtain rfl : k = l.length := by omega
        go_wp2
        go_ret
        exact ⟨A, c, by rw [← HN.out]; rfl, by rw [← HN.out]; exact HO.out, HB.out⟩

theorem overlap_end {u v : List UInt8} {k : Nat} (h1 : 1 ≤ k) (h2 : ¬ (k < u.length ∧ k < v.length)) (h3 : k = 1 ∨ k ≤ min u.length v.length) : M.OverlapsOf u v = M.sel (M.overlapAt u v) k := by
  unfold M.OverlapsOf
  rcases h3 with h3 | h3
  · subst h3
    by_cases h : 1 ≤ min u.length v.length
    · have : min u.length v.length = 1 := by omega
      rw [this]
    · have : min u.length v.length = 0 := by omega
      rw [this]
      exact (M.sel_no (p := M.overlapAt u v) (k := 0) (by simp [M.overlapAt])).symm
  · have : min u.length v.length = k := by omega
    rw [this]
set_option maxRecDepth 100000 in
set_option maxHeartbeats 1000000 in
theorem spec_OverlapsOf_c (l p : List UInt8) (w : World) (hl : l.length ≤ 1048576) (hp : p.length ≤ 1048576) :
    Calls Try.prog 188 #[.string ⟨l.toArray⟩, .string ⟨p.toArray⟩] w (RetRow 3 1 (M.OverlapsOf l p).length (ints (M.OverlapsOf l p)) w) := by
  go_enter Try.func188, Try.ntmps188
  go_wp2
  go_loopw [5, 6] (fun s i wr => ∃ (k : Nat) (A : Option Addr) (n c : Nat), 1 ≤ k ∧ (k = 1 ∨ k ≤ min l.length p.length) ∧ i = .int .i64 k ∧ s = .slice A n c ∧ n ≤ k ∧ n = (M.sel (M.overlapAt l p) k).length ∧ wr.ownsRow w.heap.size 3 1 (.slice A n c) n (ints (M.sel (M.overlapAt l p) k)) ∧ Below w.heap.size w wr) (fun _ i _ => l.length - (intOf i).toNat)
  case atStart =>
    have h0 : M.sel (M.overlapAt l p) 1 = [] := M.sel_no (p := M.overlapAt l p) (k := 0) (by simp [M.overlapAt])
    exact ⟨1, _, 0, 0, by omega, Or.inl rfl, rfl, rfl, by omega, by rw [h0]; rfl, by rw [h0]; exact World.ownsRow_lit w #[] 0 (Nat.le_refl _) (by simp [maxLen]) (by simp), (Below.refl _ _).alloc (Nat.le_refl _) _⟩
  case round =>
    obtain ⟨k, A, n, c, hk1, hk2, rfl, rfl, hnk, hn, hown, hb⟩ := hrel
    have HN := Lib.hid hn
    have HO := Lib.hid hown
    have HB := Lib.hid hb
    have HK := Lib.hid hk2
    clear hn hown hb hk2
    by_cases hlt : k < l.length ∧ k < p.length
    · obtain ⟨hlt1, hlt2⟩ := hlt
      have hsub : (l.length : Int) - k = ((l.length - k : Nat) : Int) := by omega
      obtain ⟨m, hm⟩ : ∃ m, m = l.length - k := ⟨_, rfl⟩
      rw [← hm] at hsub
      have hm1 : m ≤ l.length := by omega
      obtain ⟨y, hy⟩ : ∃ y, y = l.drop m := ⟨_, rfl⟩
      obtain ⟨z, hz⟩ : ∃ z, z = p.take k := ⟨_, rfl⟩
      have hy' := hy.symm
      have hz' := hz.symm
      by_cases he : y = z
      · have HS := Lib.hid (M.sel_yes (p := M.overlapAt l p) (k := k) (by unfold M.overlapAt; rw [← hm, ← hy, ← hz, he]; simp; omega))
        subst he
        clear hy hz hm
        go_wp2
        go_quiet (fail)
        go_wp2_with (at_builtin; refine push_law_drew rfl _ _ rfl slInt rfl HO.out (us := [.int .i64 k]) rfl rfl (by simp [Value.oneCell']) HB.out rfl (by omega) ?_; intro A' c' w' hown' hb')
        go_roundw
        case rel => exact ⟨k + 1, A', n + 1, c', by omega, by omega, by go_num, rfl, by omega, by rw [HS.out, HN.out]; simp, by rw [HS.out, ints_add]; exact hown', hb'⟩
        case measure => simp [intOf]; omega
      · have HS := Lib.hid (M.sel_no (p := M.overlapAt l p) (k := k) (by unfold M.overlapAt; rw [← hm, ← hy, ← hz]; simp [he]))
        have he' : (y == z) = false := by simpa using he
        clear hy hz hm he
        go_wp2
        go_quiet (fail)
        go_wp2
        go_roundw
        case rel => exact ⟨k + 1, A, n, c, by omega, by omega, by go_num, rfl, by omega, by rw [HS.out, HN.out], by rw [HS.out]; exact HO.out, below_drewN HB.out _⟩
        case measure => simp [intOf]; omega
    · have HE := Lib.hid (overlap_end hk1 hlt HK.out)
      by_cases h1 : k < l.length
      · have h2 : ¬ k < p.length := by omega
        clear hlt
        go_wp2
        go_ret
        exact ⟨A, c, by rw [HE.out, ← HN.out]; rfl, by rw [HE.out, ← HN.out]; exact HO.out, HB.out⟩
      · clear hlt
        go_wp2
        go_ret
        exact ⟨A, c, by rw [HE.out, ← HN.out]; rfl, by rw [HE.out, ← HN.out]; exact HO.out, HB.out⟩
set_option maxRecDepth 100000 in
set_option maxHeartbeats 1000000 in
theorem impl_OverlapsOf_c (l p : List UInt8) (w : World) (hl : l.length ≤ 1048576) (hp : p.length ≤ 1048576) :
    Calls Try.prog 152 #[.string ⟨l.toArray⟩, .string ⟨p.toArray⟩] w (RetRow 3 1 (M.OverlapsOf l p).length (ints (M.OverlapsOf l p)) w) := by
  go_enter Try.func152, Try.ntmps152
  go_wp2
  go_loopw [5, 6] (fun s i wr => ∃ (k : Nat) (A : Option Addr) (n c : Nat), 1 ≤ k ∧ (k = 1 ∨ k ≤ min l.length p.length) ∧ i = .int .i64 k ∧ s = .slice A n c ∧ n ≤ k ∧ n = (M.sel (M.overlapAt l p) k).length ∧ wr.ownsRow w.heap.size 3 1 (.slice A n c) n (ints (M.sel (M.overlapAt l p) k)) ∧ Below w.heap.size w wr) (fun _ i _ => l.length - (intOf i).toNat)
  case atStart =>
    have h0 : M.sel (M.overlapAt l p) 1 = [] := M.sel_no (p := M.overlapAt l p) (k := 0) (by simp [M.overlapAt])
    exact ⟨1, none, 0, 0, by omega, Or.inl rfl, rfl, rfl, by omega, by rw [h0]; rfl, by rw [h0]; exact World.ownsRow_nil _ _ _ _, Below.refl _ _⟩
  case round =>
    obtain ⟨k, A, n, c, hk1, hk2, rfl, rfl, hnk, hn, hown, hb⟩ := hrel
    have HN := Lib.hid hn
    have HO := Lib.hid hown
    have HB := Lib.hid hb
    have HK := Lib.hid hk2
    clear hn hown hb hk2
    by_cases hmn : p.length < l.length
    all_goals
      by_cases hlt : k < l.length ∧ k < p.length
      · obtain ⟨hlt1, hlt2⟩ := hlt
        obtain ⟨q, hq⟩ : ∃ q : Nat, (q : Int) = min (l.length : Int) p.length := ⟨min l.length p.length, by omega⟩
        have hkq : (k : Int) < q := by omega
        have hsub : (l.length : Int) - k = ((l.length - k : Nat) : Int) := by omega
        obtain ⟨m, hm⟩ : ∃ m, m = l.length - k := ⟨_, rfl⟩
        rw [← hm] at hsub
        have hm1 : m ≤ l.length := by omega
        obtain ⟨y, hy⟩ : ∃ y, y = l.drop m := ⟨_, rfl⟩
        obtain ⟨z, hz⟩ : ∃ z, z = p.take k := ⟨_, rfl⟩
        have hy' := hy.symm
        have hz' := hz.symm
        by_cases he : y = z
        · have HS := Lib.hid (M.sel_yes (p := M.overlapAt l p) (k := k) (by unfold M.overlapAt; rw [← hm, ← hy, ← hz, he]; simp; omega))
          subst he
          clear hy hz hm hq hkq
          go_wp2
          go_quiet (fail)
          go_wp2_with (at_builtin; refine push_law_drew rfl _ _ rfl slInt rfl HO.out (us := [.int .i64 k]) rfl rfl (by simp [Value.oneCell']) HB.out rfl (by omega) ?_; intro A' c' w' hown' hb')
          go_roundw
          case rel => exact ⟨k + 1, A', n + 1, c', by omega, by omega, by go_num, rfl, by omega, by rw [HS.out, HN.out]; simp, by rw [HS.out, ints_add]; exact hown', hb'⟩
          case measure => simp [intOf]; omega
        · have HS := Lib.hid (M.sel_no (p := M.overlapAt l p) (k := k) (by unfold M.overlapAt; rw [← hm, ← hy, ← hz]; simp [he]))
          have he' : (y == z) = false := by simpa using he
          clear hy hz hm he hq hkq
          go_wp2
          go_quiet (fail)
          go_wp2
          go_roundw
          case rel => exact ⟨k + 1, A, n, c, by omega, by omega, by go_num, rfl, by omega, by rw [HS.out, HN.out], by rw [HS.out]; exact HO.out, below_drewN HB.out _⟩
          case measure => simp [intOf]; omega
      · have HE := Lib.hid (overlap_end hk1 hlt HK.out)
        go_wp2
        go_ret
        exact ⟨A, c, by rw [HE.out, ← HN.out]; rfl, by rw [HE.out, ← HN.out]; exact HO.out, HB.out⟩

end Go.Proofs.Ytlohpphmamapeaa
