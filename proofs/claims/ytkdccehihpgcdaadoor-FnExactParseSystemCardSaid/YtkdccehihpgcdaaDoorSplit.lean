/-
  Contracts of SplitAny.
  Conditions: lengths of at most 2^20.
-/
import Derived.Test.YtkdccehihpgcdaaDoorPush
import Derived.Test.YtkdccehihpgcdaaDoorShelf
namespace Go.Proofs.YtkdccehihpgcdaaDoor
open Go.RowKit
set_option linter.unusedVariables false

theorem indexByte_pos (l : List UInt8) (c : UInt8) : (l.contains c = true ∧ 0 ≤ Lib.indexByte l c) ∨ (l.contains c = false ∧ Lib.indexByte l c = -1) := by
  induction l with
  | nil => right; simp [Lib.indexByte]
  | cons a r ih =>
    by_cases h : a = c
    · left; subst h; simp [Lib.indexByte]
    · rcases ih with ⟨h1, h2⟩ | ⟨h1, h2⟩
      · left
        refine ⟨by simp only [List.contains_cons, h1]; simp, ?_⟩
        simp only [Lib.indexByte]
        split
        · exact Int.le_refl 0
        · rw [if_neg (by simp; omega)]; omega
      · right
        refine ⟨by simp only [List.contains_cons, h1]; simp; exact fun e => h e.symm, ?_⟩
        simp only [Lib.indexByte]
        simp [h, h2]
theorem indexByte_c (l : List UInt8) (c : UInt8) (w : World) : Calls Tryd.prog 41 #[.string ⟨l.toArray⟩, .int .u8 (c.toNat : Int)] w fun e w' => e = .returned (.int .i64 (Lib.indexByte l c)) ∧ w = w' := by
  have h := Tryd.strings_IndexByte ⟨l.toArray⟩ (c.toNat : Int) w
  refine h.mono fun e w' ⟨he, hw⟩ => ⟨?_, hw.symm⟩
  rw [he]
  simp

set_option maxRecDepth 100000 in
set_option maxHeartbeats 2000000 in
theorem spec_SplitAny_c (l p : List UInt8) (w : World) (hl : l.length ≤ 1048576) (hp : p.length ≤ 1048576) :
    Calls Tryd.prog 45 #[.string ⟨l.toArray⟩, .string ⟨p.toArray⟩] w (RetRow 9 1 (M.SplitAny l p).length (strs (M.SplitAny l p)) w) := by
  go_enter Tryd.func45, Tryd.ntmps45
  go_wp2
  go_loopw [5, 6, 7] (fun s f i wr => ∃ (k : Nat) (A : Option Addr) (n c g : Nat), k ≤ l.length ∧ i = .int .i64 k ∧ f = .int .i64 g ∧ s = .slice A n c ∧ g ≤ k ∧ n ≤ k ∧ n = (M.splitTo l p k).1.length ∧ g = (M.splitTo l p k).2 ∧ wr.ownsRow w.heap.size 9 1 (.slice A n c) n (strs (M.splitTo l p k).1) ∧ Below w.heap.size w wr) (fun _ _ i _ => l.length - (intOf i).toNat)
  case atStart => exact ⟨0, _, 0, 0, 0, by omega, rfl, rfl, rfl, by omega, by omega, rfl, rfl, World.ownsRow_lit w #[] 0 (Nat.le_refl _) (by simp [maxLen]) (by simp), (Below.refl _ _).alloc (Nat.le_refl _) _⟩
  case round =>
    obtain ⟨k, A, n, c, g, hk, rfl, rfl, rfl, hgk, hnk, hn, hg, hown, hb⟩ := hrel
    have HN := Lib.hid hn
    have HG := Lib.hid hg
    have HO := Lib.hid hown
    have HB := Lib.hid hb
    clear hn hg hown hb
    by_cases hlt : k < l.length
    · obtain ⟨wo, hwo⟩ : ∃ wo : World, wo = wr := ⟨_, rfl⟩
      rw [← hwo] at HO HB ⊢
      clear hwo
      go_wp2
      go_loopw [5, 6, 8] (fun s f i wr => s = .slice A n c ∧ f = .int .i64 g ∧ (∃ j : Nat, j ≤ p.length ∧ i = .int .i64 j ∧ (p.take j).contains l[k] = false) ∧ ∃ m, wr = wo.drewN m) (fun _ _ i _ => p.length - (intOf i).toNat)
      case atStart => exact ⟨rfl, rfl, ⟨0, by omega, rfl, by simp⟩, 0, rfl⟩
      case round =>
        obtain ⟨rfl, rfl, ⟨j, hj, rfl, hc⟩, m, rfl⟩ := hrel
        have HC := Lib.hid hc
        clear hc
        by_cases hjl : j < p.length
        · by_cases he : l[k] = p[j]
          · have hcc : p.contains l[k] = true := by rw [he]; simp
            have HS := Lib.hid (M.splitTo_yes hlt hcc)
            rw [← HG.out] at HS
            have he' : (l[k].toNat : Int) = (p[j].toNat : Int) := by rw [he]
            clear he hcc
            go_wp2
            go_quiet (fail)
            go_wp2_with (at_builtin; refine push_law_drew rfl _ _ rfl slString rfl HO.out (us := [.string ⟨((l.drop g).take (k - g)).toArray⟩]) rfl rfl (by simp [Value.oneCell']) HB.out rfl (by omega) ?_; intro A' c' w' hown' hb')
            go_roundw
            case rel => exact ⟨k + 1, A', n + 1, c', k + 1, by omega, by go_num, by go_num, rfl, by omega, by omega, by rw [HS.out, HN.out]; simp, by rw [HS.out], by rw [HS.out, strs_add]; exact hown', hb'⟩
            case measure => simp [intOf]; omega
          · have hne : ¬ (l[k].toNat : Int) = (p[j].toNat : Int) := fun e => he (UInt8.toNat_inj.1 (by omega))
            have HT := Lib.hid (show (p.take (j + 1)).contains l[k] = false by rw [List.take_succ_eq_append_getElem hjl, List.contains_append, HC.out]; simp [he])
            clear he
            go_wp2
            go_quiet (fail)
            go_wp2
            go_roundw
            case rel => exact ⟨rfl, rfl, ⟨j + 1, by omega, by go_num, HT.out⟩, _, rfl⟩
            case measure => simp [intOf]; omega
        · have hcc : p.contains l[k] = false := by have := HC.out; rwa [List.take_of_length_le (by omega)] at this
          have HS := Lib.hid (M.splitTo_no hlt hcc)
          clear hcc
          go_wp2
          go_roundw
          case rel => exact ⟨k + 1, A, n, c, g, by omega, by go_num, rfl, rfl, by omega, by omega, by rw [HS.out, HN.out], by rw [HS.out, HG.out], by rw [HS.out]; exact HO.out, below_drewN HB.out _⟩
          case measure => simp [intOf]; omega
    · obtain rfl : k = l.length := by omega
      go_wp2_with (at_builtin; refine push_law rfl _ _ rfl slString rfl HO.out (us := [.string ⟨(l.drop g).toArray⟩]) rfl rfl (by simp [Value.oneCell']) HB.out rfl (by omega) ?_; intro A' c' w' hown' hb')
      go_ret
      exact ⟨A', c', by unfold M.SplitAny; rw [← HG.out, List.length_append, ← HN.out]; rfl, by unfold M.SplitAny; rw [← HG.out, List.length_append, ← HN.out, strs_add]; exact hown', hb'⟩
set_option maxRecDepth 100000 in
set_option maxHeartbeats 2000000 in
theorem impl_SplitAny_c (l p : List UInt8) (w : World) (hl : l.length ≤ 1048576) (hp : p.length ≤ 1048576) :
    Calls Tryd.prog 16 #[.string ⟨l.toArray⟩, .string ⟨p.toArray⟩] w (RetRow 9 1 (M.SplitAny l p).length (strs (M.SplitAny l p)) w) := by
  go_enter Tryd.func16, Tryd.ntmps16
  go_wp2
  go_loopw [5, 6, 7, 10] (fun s f _ i wr => ∃ (k : Nat) (A : Option Addr) (n c g : Nat), k ≤ l.length ∧ i = .int .i64 k ∧ f = .int .i64 g ∧ s = .slice A n c ∧ g ≤ k ∧ n ≤ k ∧ n = (M.splitTo l p k).1.length ∧ g = (M.splitTo l p k).2 ∧ wr.ownsRow w.heap.size 9 1 (.slice A n c) n (strs (M.splitTo l p k).1) ∧ Below w.heap.size w wr) (fun _ _ _ i _ => l.length - (intOf i).toNat)
  case atStart => exact ⟨0, none, 0, 0, 0, by omega, rfl, rfl, rfl, by omega, by omega, rfl, rfl, World.ownsRow_nil _ _ _ _, Below.refl _ _⟩
  case round =>
    obtain ⟨k, A, n, c, g, hk, rfl, rfl, rfl, hgk, hnk, hn, hg, hown, hb⟩ := hrel
    have HN := Lib.hid hn
    have HG := Lib.hid hg
    have HO := Lib.hid hown
    have HB := Lib.hid hb
    clear hn hg hown hb
    by_cases hlt : k < l.length
    · have HI := Lib.hid (fun W => indexByte_c p l[k] W)
      rcases indexByte_pos p l[k] with ⟨hcc, hpos⟩ | ⟨hcc, hneg⟩
      · have HS := Lib.hid (M.splitTo_yes hlt hcc)
        rw [← HG.out] at HS
        clear hcc
        generalize Lib.indexByte p l[k] = x at *
        go_wp2_with fail
        refine (HI.out _).mono ?_
        rintro e w1 ⟨rfl, rfl⟩
        go_wp2_with (at_builtin; refine push_law rfl _ _ rfl slString rfl HO.out (us := [.string ⟨((l.drop g).take (k - g)).toArray⟩]) rfl rfl (by simp [Value.oneCell']) HB.out rfl (by omega) ?_; intro A' c' w' hown' hb')
        go_roundw
        case rel => exact ⟨k + 1, A', n + 1, c', k + 1, by omega, by go_num, by go_num, rfl, by omega, by omega, by rw [HS.out, HN.out]; simp, by rw [HS.out], by rw [HS.out, strs_add]; exact hown', hb'⟩
        case measure => simp [intOf]; omega
      · have HS := Lib.hid (M.splitTo_no hlt hcc)
        clear hcc
        rw [hneg] at HI
        clear hneg
        go_wp2_with fail
        refine (HI.out _).mono ?_
        rintro e w1 ⟨rfl, rfl⟩
        go_wp2
        go_roundw
        case rel => exact ⟨k + 1, A, n, c, g, by omega, by go_num, rfl, rfl, by omega, by omega, by rw [HS.out, HN.out], by rw [HS.out, HG.out], by rw [HS.out]; exact HO.out, HB.out⟩
        case measure => simp [intOf]; omega
    · obtain rfl : k = l.length := by omega
      go_wp2_with (at_builtin; refine push_law rfl _ _ rfl slString rfl HO.out (us := [.string ⟨(l.drop g).toArray⟩]) rfl rfl (by simp [Value.oneCell']) HB.out rfl (by omega) ?_; intro A' c' w' hown' hb')
      go_ret
      exact ⟨A', c', by unfold M.SplitAny; rw [← HG.out, List.length_append, ← HN.out]; rfl, by unfold M.SplitAny; rw [← HG.out, List.length_append, ← HN.out, strs_add]; exact hown', hb'⟩

end Go.Proofs.YtkdccehihpgcdaaDoor
