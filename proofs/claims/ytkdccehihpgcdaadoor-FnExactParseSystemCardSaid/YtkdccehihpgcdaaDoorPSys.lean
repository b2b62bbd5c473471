/-
  Contracts of ParseSystem.
  Conditions: at most 2^20 bytes; the listed variables read as their initialisers lay them.
-/
import Derived.Test.YtkdccehihpgcdaaDoorPSysM
import Derived.Test.YtkdccehihpgcdaaDoorPInt
import Derived.Test.YtkdccehihpgcdaaDoorSplitL
import Derived.Test.YtkdccehihpgcdaaDoorPushH
namespace Go.Proofs.YtkdccehihpgcdaaDoor
open Go.RowKit
set_option linter.unusedVariables false
set_option linter.unusedSimpArgs false

/-- The walk's state: the new system's box g, its number, its row of rules; what lay below g stands. -/
def PsQ (ws wr : World) (g : Nat) (k : Int) (V : Value) (n : Nat) (xs : List Value) : Prop :=
  Below g ws wr ∧ wr.cell? ⟨g, 0, none⟩ = some (.int .i64 k) ∧ wr.cell? ⟨g, 1, none⟩ = some V ∧ wr.frozen? ⟨g, 1, none⟩ = false ∧ wr.ownsRow (g + 1) 66 2 V n xs ∧ g + 1 ≤ wr.heap.size
section
variable {ws wr w' : World} {g n : Nat} {k : Int} {V V' : Value} {xs ys : List Value}
theorem PsQ.below (h : PsQ ws wr g k V n xs) (hb : Below wr.heap.size wr w') : PsQ ws w' g k V n xs := by
  obtain ⟨h1, h2, h3, h4, h5, h6⟩ := h
  exact ⟨h1.trans (hb.mono (by omega)), cellKeep hb h2, cellKeep hb h3, ((bcell hb).2 _ _ (by omega)).trans h4, own_below h5 hb, Nat.le_trans h6 hb.size⟩
theorem PsQ.bel (h : PsQ ws wr g k V n xs) : Below g ws wr := h.1
theorem PsQ.o0 (h : PsQ ws wr g k V n xs) : wr.cell? ⟨g, 0, none⟩ = some (.int .i64 k) := h.2.1
theorem PsQ.o1 (h : PsQ ws wr g k V n xs) : wr.cell? ⟨g, 1, none⟩ = some V := h.2.2.1
theorem PsQ.own (h : PsQ ws wr g k V n xs) : wr.ownsRow (g + 1) 66 2 V n xs := h.2.2.2.2.1
theorem PsQ.base (h : PsQ ws wr g k V n xs) : g + 1 ≤ wr.heap.size := h.2.2.2.2.2
theorem PsQ.grown (h : PsQ ws wr g k V n xs) (hg : wr.grownBy w' V.ownBlock) : Below (g + 1) wr w' := (Below.refl (g + 1) wr).grown hg h.base (fun _ hk => (h.own.lt _ hk).1)
theorem PsQ.o1g (h : PsQ ws wr g k V n xs) (hg : wr.grownBy w' V.ownBlock) : w'.cell? ⟨g, 1, none⟩ = some V := cellBelow (h.grown hg) (by omega) h.o1
theorem PsQ.fog (h : PsQ ws wr g k V n xs) (hg : wr.grownBy w' V.ownBlock) : w'.frozen? ⟨g, 1, none⟩ = false := ((h.grown hg).frozen (p := ⟨g, 1, none⟩) (by simp)).trans h.2.2.2.1
theorem PsQ.push (h : PsQ ws wr g k V n xs) (hg : wr.grownBy w' V.ownBlock) {m : Nat} (ho : w'.ownsRow (g + 1) 66 2 V' m ys) : PsQ ws (w'.setCell ⟨g, 1, none⟩ V') g k V' m ys := by
  have hb := h.grown hg
  obtain ⟨h1, h2, h3, h4, h5, h6⟩ := h
  refine ⟨(h1.trans (hb.mono (by omega))).setCell (by simp) V', (cell_set_ne _ (Or.inr (by decide))).trans (cellBelow hb (by omega) h2), cell_set_eq _ (cellBelow hb (by omega) h3), ?_, ownsRow_setCell_below ho (by simp) V', by have := hb.size; simp; omega⟩
  rw [World.frozen?_setCell]
  exact (hb.frozen (p := ⟨g, 1, none⟩) (by simp)).trans h4
end
theorem heap_alloc_new2 (w : World) (o : Obj) (us : Array Value) (e : TypeId) : ((w.alloc o).alloc (.cells us e)).heap[w.heap.size + 1]? = some (.cells us e (0, 0)) := by
  have h := heap_alloc_new (w.alloc o) (.cells us e)
  rwa [show (w.alloc o).heap.size = w.heap.size + 1 by simp] at h
theorem split_r (m : Int) (l : List UInt8) (c : UInt8) (w : World) (hl : l.length ≤ 1048576) (hm : w.cell? ⟨2, 0, none⟩ = some (.int .i64 m)) :
    Calls Tryd.prog 43 #[.string ⟨l.toArray⟩, .string ⟨#[c]⟩] w (RetRow 9 1 (M.SplitAny l [c]).length (strs (M.SplitAny l [c])) w) :=
  (split_c m l c w hl hm).mono fun e w' ⟨h1, h2, h3⟩ => ⟨_, _, h1, h2, h3⟩

set_option maxRecDepth 100000 in
set_option maxHeartbeats 4000000 in
theorem spec_ParseSystem_c (l : List UInt8) (w : World) (hl : l.length ≤ 1048576) :
    Calls Tryd.prog 28 #[.string ⟨l.toArray⟩] w (RetSys (M.psK l) (M.psQ l) (M.psB l) w) := by
  obtain ⟨n, hn⟩ := split_ne l [32]
  have hlen := M.SplitAny_len l [32]
  have HSA := Lib.hid (fun W => spec_SplitAny_c l [32] W hl (by simp))
  have HMEM := Lib.hid (fun x (hx : x ∈ M.SplitAny l [32]) => split_mem hx)
  have HHD := Lib.hid (fun x h => ps_head (l := l) (x := x) h)
  have HFI := Lib.hid (fun i x h h2 => ps_fine (l := l) i x h h2)
  have HB3 := Lib.hid (fun h => ps_bad3 (l := l) h)
  have HB4 := Lib.hid (fun h => ps_bad4 (l := l) h)
  have HOK := Lib.hid (fun h hf => ps_ok (l := l) h hf)
  have HRL := psR_len hn
  have HRS := Lib.hid (psR_sides l)
  have HSU := Lib.hid (fun i x h => psR_next (l := l) i x h)
  rw [hn] at HSA
  generalize M.SplitAny l [32] = zs at *
  have HALL := Lib.hid (show (M.psR l).take n = M.psR l by rw [← HRL]; exact List.take_length)
  have HRLH := Lib.hid HRL
  have HRO := Lib.hid (fun k (hk : k = M.psN l) A c W h => spec_RulesOk_c k A c (M.psR l) W h (by omega) HRS.out)
  rw [HRL] at HRO
  have HFS := Lib.hid (fun k (hk : k = M.psN l) A c W h => spec_FormatSystem_c k A c (M.psR l) W h (by omega) HRS.out)
  rw [HRL] at HFS
  have HZL := Lib.hid hn
  have hn1 : n ≤ 1048576 := by omega
  clear HRL hn
  go_enter Tryd.func28, Tryd.ntmps28
  go_wp2_with fail
  refine (HSA.out _).mono ?_
  rintro e w1 ⟨A, c, rfl, hown, hb⟩
  have s1 : w.heap.size + 1 ≤ w1.heap.size := by have := hb.size; simp at this; omega
  have r0 : w1.cell? ⟨w.heap.size, 0, none⟩ = some (.int .i64 0) := cellKeep hb (by simp [go_sem])
  have r1 : w1.cell? ⟨w.heap.size, 1, none⟩ = some (.slice none 0 0) := cellKeep hb (by simp [go_sem])
  have f0 : w1.frozen? ⟨w.heap.size, 0, none⟩ = false := ((bcell hb).2 _ _ (by simp)).trans (by simp [go_sem])
  have f1 : w1.frozen? ⟨w.heap.size, 1, none⟩ = false := ((bcell hb).2 _ _ (by simp)).trans (by simp [go_sem])
  have T1 := Lib.hid (below_alloc1 hb)
  obtain ⟨⟨b, rfl⟩, hcd⟩ := own_some hown (by omega)
  obtain ⟨_, hcm⟩ := own_cap hown (by omega)
  have HRD := Lib.hid (Rd.of_own hown)
  clear hown hb
  have HZ := Lib.hid (show ∀ i x, zs[i]? = some x → w1.cell? ⟨b, i, none⟩ = some (.string ⟨x.toArray⟩) from fun i x hx => by
    obtain ⟨hi, rfl⟩ := List.getElem?_eq_some_iff.1 hx
    obtain ⟨b', o', e1, hz, hc⟩ := HRD.out.strAt (k := i) (by have := HZL.out; omega)
    injection e1 with e1
    injection e1 with e1 e2
    subst e1
    subst e2
    simpa using hc)
  have hbw1 : b < w1.heap.size := HRD.out.lt (by decide) (by omega) rfl
  clear HRD
  obtain ⟨z0, hz0⟩ : ∃ z0, zs[0]? = some z0 := ⟨_, List.getElem?_eq_getElem (by have := HZL.out; omega)⟩
  have hc0 := HZ.out 0 z0 hz0
  have hz0l := HMEM.out z0 (List.mem_of_getElem? hz0)
  obtain ⟨hpn, hpb⟩ := HHD.out z0 hz0
  have HPB := Lib.hid hpb
  have HPI := Lib.hid (fun W => spec_ParseInt_c z0 W (by omega))
  generalize M.parseInt z0 = x at *
  obtain ⟨v, ok⟩ := x
  simp only at HPI hpn HPB
  have HPN := Lib.hid hpn
  clear hpn hpb hz0
  go_wp2_with fail
  refine (HPI.out _).mono ?_
  rintro e w2 ⟨rfl, hb⟩
  have s2 := hb.size
  replace r0 : w2.cell? ⟨w.heap.size, 0, none⟩ = some (.int .i64 0) := cellKeep hb r0
  replace r1 : w2.cell? ⟨w.heap.size, 1, none⟩ = some (.slice none 0 0) := cellKeep hb r1
  replace f0 : w2.frozen? ⟨w.heap.size, 0, none⟩ = false := ((bcell hb).2 _ _ (by omega)).trans f0
  replace f1 : w2.frozen? ⟨w.heap.size, 1, none⟩ = false := ((bcell hb).2 _ _ (by omega)).trans f1
  have T2 := Lib.hid (T1.out.trans (hb.mono T1.out.size))
  have HZ2 := Lib.hid (fun i x hx => cellKeep hb (HZ.out i x hx))
  clear hb hc0 HZ
  cases ok
  case false =>
    have hno := HPB.out rfl
    go_wp2_with fail
    refine bodyPost_ret (v := .tuple #[.agg #[.int .i64 0, .slice none 0 0], .bool false]) ?_ rfl (retPs_no hno ?_)
    · simp [results, Tryd.results28, go_sem, cell_set_ne, cell_set_eq _ r0, cell_two' r1]
    · exact (T2.out.setCell (by simp) _).setCell (by simp) _
  case true =>
  have HSZ := Lib.hid (show ∀ o : Obj, (w2.alloc o).heap.size = w2.heap.size + 1 from fun o => by simp)
  have HQ0 := Lib.hid (show PsQ (w2.alloc (.cells #[.int .i64 v, .slice none 0 0] 44)) (w2.alloc (.cells #[.int .i64 v, .slice none 0 0] 44)) w2.heap.size v (.slice none 0 0) 0 (ruls ((M.psR l).take 0)) from
    ⟨Below.refl _ _, by simp [go_sem], by simp [go_sem], by simp [go_sem], World.ownsRow_nil _ _ _ _, by simp⟩)
  have T3 := Lib.hid (T2.out.alloc T2.out.size (.cells #[.int .i64 v, .slice none 0 0] 44))
  have HZ3 := Lib.hid (fun i x hx => allocKeep1 (HZ2.out i x hx) (.cells #[.int .i64 v, .slice none 0 0] 44))
  have R0 := Lib.hid (allocKeep1 r0 (.cells #[.int .i64 v, .slice none 0 0] 44))
  have R1 := Lib.hid (allocKeep1 r1 (.cells #[.int .i64 v, .slice none 0 0] 44))
  have F0 := Lib.hid (((bcell ((Below.refl w2.heap.size w2).alloc (Nat.le_refl _) (.cells #[.int .i64 v, .slice none 0 0] 44))).2 _ _ (by omega)).trans f0)
  have F1 := Lib.hid (((bcell ((Below.refl w2.heap.size w2).alloc (Nat.le_refl _) (.cells #[.int .i64 v, .slice none 0 0] 44))).2 _ _ (by omega)).trans f1)
  clear r0 r1 f0 f1 HZ2 T2 T1 HSA HPI HPB HHD
  go_wp2_with fail
  all_goals
    obtain ⟨g, hg⟩ : ∃ g, g = w2.heap.size := ⟨_, rfl⟩
    obtain ⟨ws, hws⟩ : ∃ ws : World, ws = w2.alloc (.cells #[.int .i64 v, .slice none 0 0] 44) := ⟨_, rfl⟩
    rw [← hws] at HQ0 T3 HZ3 R0 R1 F0 F1 ⊢
    rw [← hg] at HQ0 ⊢
    have hbg : b < g := by omega
    have hwg : w.heap.size < g := by omega
    clear HSZ hws hg s1 s2 hbw1
    go_loopw [29] (fun z wr => ∃ (i : Nat) (A' : Option Addr) (c' : Nat), i ≤ n ∧ z = .int .i64 i ∧ PsQ ws wr g v (.slice A' i c') i (ruls ((M.psR l).take i))) (fun z _ => n - (intOf z).toNat)
    case atStart => exact ⟨0, none, 0, by omega, rfl, HQ0.out⟩
    case round =>
      clear HQ0
      obtain ⟨i, A', c', hi, rfl, hq⟩ := hrel
      have HQ := Lib.hid hq
      clear hq
      by_cases hlt : i < n
      case pos =>
        first
        | (exfalso; omega)
        | skip
          obtain ⟨x, hx⟩ : ∃ x, zs[i + 1]? = some x := ⟨_, List.getElem?_eq_getElem (by have := HZL.out; omega)⟩
          have hcx : wr.cell? ⟨b, 1 + i, none⟩ = some (.string ⟨x.toArray⟩) := cellBelow HQ.out.bel hbg (by rw [Nat.add_comm]; exact HZ3.out (i + 1) x hx)
          have hxl := HMEM.out x (List.mem_of_getElem? hx)
          have HS := Lib.hid (HSU.out i x hx)
          have HPR := Lib.hid (fun W => spec_ParseRule_c x W (by omega))
          have HFX := Lib.hid (HFI.out i x hx)
          have hpf : M.psF x = (M.ParseRule x).1 := rfl
          rw [hpf] at HS
          clear hx hpf
          generalize M.ParseRule x = pr at *
          obtain ⟨⟨pl, pr⟩, ok2⟩ := pr
          simp only at HPR HS HFX
          go_wp2_with fail
          refine (HPR.out _).mono ?_
          rintro e w3 ⟨rfl, hb⟩
          have HQ3 := Lib.hid (HQ.out.below hb)
          clear hb hcx
          cases ok2
          case false =>
            have hno := HFX.out rfl
            have T4 := Lib.hid (fun o : Obj => (T3.out.trans (HQ3.out.bel.mono (Nat.le_of_lt hwg))).alloc (by have := HQ3.out.base; omega) o)
            have r0 := fun o => allocKeep1 (cellBelow HQ3.out.bel hwg R0.out) o
            have r1 := fun o => allocKeep1 (cellBelow HQ3.out.bel hwg R1.out) o
            have f0 : ∀ o, (w3.alloc o).frozen? ⟨w.heap.size, 0, none⟩ = false := fun o => ((bcell ((Below.refl w3.heap.size w3).alloc (Nat.le_refl _) o)).2 _ _ (by have := HQ3.out.base; omega)).trans ((HQ3.out.bel.frozen (p := ⟨w.heap.size, 0, none⟩) hwg).trans F0.out)
            have f1 : ∀ o, (w3.alloc o).frozen? ⟨w.heap.size, 1, none⟩ = false := fun o => ((bcell ((Below.refl w3.heap.size w3).alloc (Nat.le_refl _) o)).2 _ _ (by have := HQ3.out.base; omega)).trans ((HQ3.out.bel.frozen (p := ⟨w.heap.size, 1, none⟩) hwg).trans F1.out)
            go_wp2_with fail
            try simp only [Exit.inBlock, Exit.then]
            refine bodyPost_ret (v := .tuple #[.agg #[.int .i64 0, .slice none 0 0], .bool false]) ?_ rfl (retPs_no hno ?_)
            · simp [results, Tryd.results28, go_sem, cell_set_ne, cell_set_eq _ (r0 _), cell_two' (r1 _)]
            · exact ((T4.out _).setCell (by simp) _).setCell (by simp) _
          case true =>
          have HQA := Lib.hid (fun (o p : Obj) => HQ3.out.below (((Below.refl w3.heap.size w3).alloc (Nat.le_refl _) o).alloc (by simp) p))
          have o1 := fun o => allocKeep1 HQ3.out.o1 o
          go_wp2_with (at_builtin; refine push_law_h rfl _ _ rfl slRule rfl (HQA.out _ _).own (us := [.string ⟨pl.toArray⟩, .string ⟨pr.toArray⟩]) rfl rfl (by simp [Value.oneCell']) (heap_alloc_new2 _ _ _ _) (HQA.out _ _).base (by omega) ?_; intro A5 c5 w5 hown5 hg5; have o5 := (HQA.out _ _).o1g hg5; have f5 := (HQA.out _ _).fog hg5)
          go_roundw
          case rel => exact ⟨i + 1, A5, c5, by omega, by go_num, (HQA.out _ _).push hg5 (by rw [HS.out]; exact hown5)⟩
          case measure => simp [intOf] <;> omega
      case neg =>
        obtain rfl : i = n := by omega
        have T4 := Lib.hid (T3.out.trans (HQ.out.bel.mono (Nat.le_of_lt hwg)))
        have r0 := cellBelow HQ.out.bel hwg R0.out
        have r1 := cellBelow HQ.out.bel hwg R1.out
        have f0 := (HQ.out.bel.frozen (p := ⟨w.heap.size, 0, none⟩) hwg).trans F0.out
        have f1 := (HQ.out.bel.frozen (p := ⟨w.heap.size, 1, none⟩) hwg).trans F1.out
        have o0 := HQ.out.o0
        have o1 := HQ.out.o1
        have hbs := HQ.out.base
        have HOW := Lib.hid (show wr.ownsRow (g + 1) 66 2 (.slice A' i c') i (ruls (M.psR l)) by have h := HQ.out.own; rw [HALL.out] at h; exact h)
        have HRV := Lib.hid (HRO.out v HPN.out A' c')
        have HFV := Lib.hid (HFS.out v HPN.out A' c')
        obtain ⟨rk, hrk⟩ : ∃ rk, rk = M.RulesOk v (M.psR l) := ⟨_, rfl⟩
        obtain ⟨fs, hfs⟩ : ∃ fs, fs = M.FormatSystem v (M.psR l) := ⟨_, rfl⟩
        rw [← hrk] at HRV
        rw [← hfs] at HFV
        have HB3' := Lib.hid (fun h => HB3.out (by rw [← HPN.out]; exact h))
        have HB4' := Lib.hid (fun h => HB4.out (by rw [← HPN.out]; exact h))
        have HOK' := Lib.hid (fun h h2 => HOK.out (by rw [← HPN.out]; exact h) (by rw [← HPN.out]; exact h2))
        rw [← hrk, ← hfs] at HOK'
        rw [← hrk] at HB3'
        rw [← hfs] at HB4'
        clear hrk hfs HRO HFS HB3 HB4 HOK HQ
        go_wp2_with fail
        refine (HRV.out _ (Rd.of_own HOW.out)).mono ?_
        rintro e w4 ⟨rfl, hb⟩
        replace r0 : w4.cell? ⟨w.heap.size, 0, none⟩ = some (.int .i64 0) := cellKeep hb r0
        replace r1 : w4.cell? ⟨w.heap.size, 1, none⟩ = some (.slice none 0 0) := cellKeep hb r1
        replace f0 : w4.frozen? ⟨w.heap.size, 0, none⟩ = false := ((bcell hb).2 _ _ (by omega)).trans f0
        replace f1 : w4.frozen? ⟨w.heap.size, 1, none⟩ = false := ((bcell hb).2 _ _ (by omega)).trans f1
        replace o0 : w4.cell? ⟨g, 0, none⟩ = some (.int .i64 v) := cellKeep hb o0
        replace o1 : w4.cell? ⟨g, 1, none⟩ = some (.slice A' i c') := cellKeep hb o1
        replace HOW := Lib.hid (own_below HOW.out hb)
        replace T4 := Lib.hid (T4.out.trans (hb.mono T4.out.size))
        replace hbs := Nat.le_trans hbs hb.size
        clear hb
        cases rk
        case false =>
          have hno := HB3'.out rfl
          go_wp2_with fail
          try simp only [Exit.inBlock, Exit.then]
          refine bodyPost_ret (v := .tuple #[.agg #[.int .i64 0, .slice none 0 0], .bool false]) ?_ rfl (retPs_no hno ?_)
          · simp [results, Tryd.results28, go_sem, cell_set_ne, cell_set_eq _ r0, cell_two' r1]
          · exact (T4.out.setCell (by simp) _).setCell (by simp) _
        case true =>
        go_wp2_with fail
        refine (HFV.out _ (Rd.of_own HOW.out)).mono ?_
        rintro e w5 ⟨rfl, hb⟩
        replace r0 : w5.cell? ⟨w.heap.size, 0, none⟩ = some (.int .i64 0) := cellKeep hb r0
        replace r1 : w5.cell? ⟨w.heap.size, 1, none⟩ = some (.slice none 0 0) := cellKeep hb r1
        replace f0 : w5.frozen? ⟨w.heap.size, 0, none⟩ = false := ((bcell hb).2 _ _ (by omega)).trans f0
        replace f1 : w5.frozen? ⟨w.heap.size, 1, none⟩ = false := ((bcell hb).2 _ _ (by omega)).trans f1
        replace o0 : w5.cell? ⟨g, 0, none⟩ = some (.int .i64 v) := cellKeep hb o0
        replace o1 : w5.cell? ⟨g, 1, none⟩ = some (.slice A' i c') := cellKeep hb o1
        replace HOW := Lib.hid (own_below HOW.out hb)
        replace T4 := Lib.hid (T4.out.trans (hb.mono T4.out.size))
        replace hbs := Nat.le_trans hbs hb.size
        clear hb
        by_cases hfl : fs = l
        case neg =>
          have hno := HB4'.out hfl
          have hfe : (fs == l) = false := by simpa using hfl
          go_wp2_with fail
          try simp only [Exit.inBlock, Exit.then]
          refine bodyPost_ret (v := .tuple #[.agg #[.int .i64 0, .slice none 0 0], .bool false]) ?_ rfl (retPs_no hno ?_)
          · simp [results, Tryd.results28, go_sem, cell_set_ne, cell_set_eq _ r0, cell_two' r1]
          · exact (T4.out.setCell (by simp) _).setCell (by simp) _
        case pos =>
          have hyes := HOK'.out (by first | rfl | trivial) hfl
          have HY := Lib.hid hyes
          subst hfl
          clear hyes
          go_wp2_with fail
          try simp only [Exit.inBlock, Exit.then]
          refine bodyPost_ret (v := .tuple #[.agg #[.int .i64 v, .slice A' i c'], .bool true]) ?_ rfl (retPs_yes (rs := _) HY.out HPN.out rfl HRLH.out.symm ?_ ?_)
          · simp [results, Tryd.results28, go_sem, cell_set_ne, cell_set_eq _ r0, cell_two' r1]
          · exact (Own.of_row (ownsRow_setCell_below (ownsRow_setCell_below HOW.out (by simp; omega) _) (by simp; omega) _)).mono (by omega)
          · exact (T4.out.setCell (by simp) _).setCell (by simp) _

set_option maxRecDepth 100000 in
set_option maxHeartbeats 4000000 in
theorem impl_ParseSystem_c (m : Int) (l : List UInt8) (w : World) (hl : l.length ≤ 1048576) (hm : w.cell? ⟨2, 0, none⟩ = some (.int .i64 m)) (ht : Tab10 w) (he : Errs w) :
    Calls Tryd.prog 29 #[.string ⟨l.toArray⟩] w (RetSys (M.psK l) (M.psQ l) (M.psB l) w) := by
  obtain ⟨n, hn⟩ := split_ne l [32]
  have hlen := M.SplitAny_len l [32]
  have HSA := Lib.hid (fun W hm => split_r m l 32 W hl hm)
  have HM := Lib.hid hm
  have HT := Lib.hid ht
  have HE := Lib.hid he
  clear hm ht he
  have HB5 := Lib.hid (fun h => ps_bad5 (l := l) h)
  have HB6 := Lib.hid (fun h => ps_bad6 (l := l) h)
  have HMEM := Lib.hid (fun x (hx : x ∈ M.SplitAny l [32]) => split_mem hx)
  have HHD := Lib.hid (fun x h => ps_head (l := l) (x := x) h)
  have HFI := Lib.hid (fun i x h h2 => ps_fine (l := l) i x h h2)
  have HB3 := Lib.hid (fun h => ps_bad3 (l := l) h)
  have HB4 := Lib.hid (fun h => ps_bad4 (l := l) h)
  have HOK := Lib.hid (fun h hf => ps_ok' (l := l) h hf)
  have HRL := psR_len hn
  have HRS := Lib.hid (psR_sides l)
  have HSU := Lib.hid (fun i x h => psR_next (l := l) i x h)
  rw [hn] at HSA HB5
  generalize M.SplitAny l [32] = zs at *
  have HALL := Lib.hid (show (M.psR l).take n = M.psR l by rw [← HRL]; exact List.take_length)
  have HRLH := Lib.hid HRL
  have HFS := Lib.hid (fun k (hk : k = M.psN l) A c W h ht => impl_FormatSystem_c k A c (M.psR l) W h (by omega) HRS.out ht)
  rw [HRL] at HFS
  have HZL := Lib.hid hn
  have hn1 : n ≤ 1048576 := by omega
  clear HRL hn
  go_enter Tryd.func29, Tryd.ntmps29
  go_wp2_with fail
  refine (HSA.out _ (allocKeep1 HM.out _)).mono ?_
  rintro e w1 ⟨A, c, rfl, hown, hb⟩
  have s1 : w.heap.size + 1 ≤ w1.heap.size := by have := hb.size; simp at this; omega
  have r0 : w1.cell? ⟨w.heap.size, 0, none⟩ = some (.int .i64 0) := cellKeep hb (by simp [go_sem])
  have r1 : w1.cell? ⟨w.heap.size, 1, none⟩ = some (.slice none 0 0) := cellKeep hb (by simp [go_sem])
  have f0 : w1.frozen? ⟨w.heap.size, 0, none⟩ = false := ((bcell hb).2 _ _ (by simp)).trans (by simp [go_sem])
  have f1 : w1.frozen? ⟨w.heap.size, 1, none⟩ = false := ((bcell hb).2 _ _ (by simp)).trans (by simp [go_sem])
  have T1 := Lib.hid (below_alloc1 hb)
  obtain ⟨⟨b, rfl⟩, hcd⟩ := own_some hown (by omega)
  obtain ⟨_, hcm⟩ := own_cap hown (by omega)
  have HRD := Lib.hid (Rd.of_own hown)
  clear hown hb
  have HZ := Lib.hid (show ∀ i x, zs[i]? = some x → w1.cell? ⟨b, i, none⟩ = some (.string ⟨x.toArray⟩) from fun i x hx => by
    obtain ⟨hi, rfl⟩ := List.getElem?_eq_some_iff.1 hx
    obtain ⟨b', o', e1, hz, hc⟩ := HRD.out.strAt (k := i) (by have := HZL.out; omega)
    injection e1 with e1
    injection e1 with e1 e2
    subst e1
    subst e2
    simpa using hc)
  have hbw1 : b < w1.heap.size := HRD.out.lt (by decide) (by omega) rfl
  clear HRD
  obtain ⟨z0, hz0⟩ : ∃ z0, zs[0]? = some z0 := ⟨_, List.getElem?_eq_getElem (by have := HZL.out; omega)⟩
  have hc0 := HZ.out 0 z0 hz0
  have hz0l := HMEM.out z0 (List.mem_of_getElem? hz0)
  obtain ⟨hpn, hpb⟩ := HHD.out z0 hz0
  have HPB := Lib.hid hpb
  have HPI := Lib.hid (fun W ht he => impl_ParseInt_c z0 W (by omega) ht he)
  generalize M.parseInt z0 = x at *
  obtain ⟨v, ok⟩ := x
  simp only at HPI hpn HPB
  have HPN := Lib.hid hpn
  clear hpn hpb hz0 HPB
  by_cases h13 : 13 < n + 1
  case pos =>
    have hno := HB5.out h13
    have h13' : ((n + 1 : Nat) : Int) > 13 := by omega
    have h13'' : 12 < n := by omega
    clear hc0
    go_wp2_with fail
    refine bodyPost_ret (v := .tuple #[.agg #[.int .i64 0, .slice none 0 0], .bool false]) ?_ rfl (retPs_no hno ?_)
    · simp [results, Tryd.results29, go_sem, cell_set_ne, cell_set_eq _ r0, cell_two' r1]
    · exact (T1.out.setCell (by simp) _).setCell (by simp) _
  case neg =>
  have h13' : ¬ (((n + 1 : Nat) : Int) > 13) := by omega
  have h13'' : ¬ 12 < n := by omega
  have hc0' := fun o => allocKeep1 hc0 o
  have T1a := Lib.hid (fun o => T1.out.alloc T1.out.size o)
  go_wp2_with fail
  refine (HPI.out _ (HT.out.below (T1a.out _)) (HE.out.below (T1a.out _))).mono ?_
  rintro e w2 ⟨rfl, hb⟩
  have s2 : w1.heap.size + 1 ≤ w2.heap.size := by have := hb.size; simp at this; omega
  have g0 : w2.cell? ⟨w1.heap.size, 0, none⟩ = some (.int .i64 0) := cellKeep hb (by simp [go_sem])
  have g1 : w2.cell? ⟨w1.heap.size, 1, none⟩ = some (.slice none 0 0) := cellKeep hb (by simp [go_sem])
  have k0 : w2.frozen? ⟨w1.heap.size, 0, none⟩ = false := ((bcell hb).2 _ _ (by simp)).trans (by simp [go_sem])
  have k1 : w2.frozen? ⟨w1.heap.size, 1, none⟩ = false := ((bcell hb).2 _ _ (by simp)).trans (by simp [go_sem])
  have B12 := Lib.hid (below_alloc1 hb)
  replace r0 : w2.cell? ⟨w.heap.size, 0, none⟩ = some (.int .i64 0) := cellKeep B12.out r0
  replace r1 : w2.cell? ⟨w.heap.size, 1, none⟩ = some (.slice none 0 0) := cellKeep B12.out r1
  replace f0 : w2.frozen? ⟨w.heap.size, 0, none⟩ = false := ((bcell B12.out).2 _ _ (by omega)).trans f0
  replace f1 : w2.frozen? ⟨w.heap.size, 1, none⟩ = false := ((bcell B12.out).2 _ _ (by omega)).trans f1
  have T2 := Lib.hid (T1.out.trans (B12.out.mono T1.out.size))
  have HZ2 := Lib.hid (fun i x hx => cellKeep B12.out (HZ.out i x hx))
  have HQ0 := Lib.hid (show PsQ (w2.setCell ⟨w1.heap.size, 0, none⟩ (.int .i64 v)) (w2.setCell ⟨w1.heap.size, 0, none⟩ (.int .i64 v)) w1.heap.size v (.slice none 0 0) 0 (ruls ((M.psR l).take 0)) from
    ⟨Below.refl _ _, cell_set_eq _ g0, (cell_set_ne _ (Or.inr (by decide))).trans g1, (World.frozen?_setCell _ _ _ _).trans k1, World.ownsRow_nil _ _ _ _, by simp; omega⟩)
  have T3 := Lib.hid (T2.out.setCell (p := ⟨w1.heap.size, 0, none⟩) (by simp; omega) (.int .i64 v))
  have HZ3 := Lib.hid (fun i x hx => (cell_set_ne (b := w1.heap.size) (o := 0) (.int .i64 v) (Or.inl (by omega))).trans (HZ2.out i x hx))
  have R0 := Lib.hid ((cell_set_ne (b := w1.heap.size) (o := 0) (.int .i64 v) (Or.inl (by omega))).trans r0)
  have R1 := Lib.hid ((cell_set_ne (b := w1.heap.size) (o := 0) (.int .i64 v) (Or.inl (by omega))).trans r1)
  have F0 := Lib.hid ((World.frozen?_setCell _ _ _ _ : (w2.setCell ⟨w1.heap.size, 0, none⟩ (.int .i64 v)).frozen? ⟨w.heap.size, 0, none⟩ = w2.frozen? ⟨w.heap.size, 0, none⟩).trans f0)
  have F1 := Lib.hid ((World.frozen?_setCell _ _ _ _ : (w2.setCell ⟨w1.heap.size, 0, none⟩ (.int .i64 v)).frozen? ⟨w.heap.size, 1, none⟩ = w2.frozen? ⟨w.heap.size, 1, none⟩).trans f1)
  clear hb r0 r1 f0 f1 HZ2 T2 T1 HSA HPI HHD HZ hc0 hc0' B12 h13 h13' h13'' HB5
  go_wp2_with fail
  all_goals
    obtain ⟨ws, hws⟩ : ∃ ws : World, ws = w2.setCell ⟨w1.heap.size, 0, none⟩ (.int .i64 v) := ⟨_, rfl⟩
    rw [← hws] at HQ0 T3 HZ3 R0 R1 F0 F1 ⊢
    obtain ⟨g, hg⟩ : ∃ g, g = w1.heap.size := ⟨_, rfl⟩
    rw [← hg] at HQ0 ⊢
    have hbg : b < g := by omega
    have hwg : w.heap.size < g := by omega
    clear hws hg s1 s2 hbw1 g0 g1 k0 k1
    go_loopw [27] (fun z wr => ∃ (i : Nat) (A' : Option Addr) (c' : Nat), i ≤ n ∧ z = .int .i64 i ∧ PsQ ws wr g v (.slice A' i c') i (ruls ((M.psR l).take i))) (fun z _ => n - (intOf z).toNat)
    case atStart => exact ⟨0, none, 0, by omega, rfl, HQ0.out⟩
    case round =>
      clear HQ0
      obtain ⟨i, A', c', hi, rfl, hq⟩ := hrel
      have HQ := Lib.hid hq
      clear hq
      by_cases hlt : i < n
      case pos =>
        first
        | (exfalso; omega)
        | skip
          obtain ⟨x, hx⟩ : ∃ x, zs[i + 1]? = some x := ⟨_, List.getElem?_eq_getElem (by have := HZL.out; omega)⟩
          have hcx : wr.cell? ⟨b, 1 + i, none⟩ = some (.string ⟨x.toArray⟩) := cellBelow HQ.out.bel hbg (by rw [Nat.add_comm]; exact HZ3.out (i + 1) x hx)
          have hxl := HMEM.out x (List.mem_of_getElem? hx)
          have HS := Lib.hid (HSU.out i x hx)
          have HPR := Lib.hid (fun W hm => impl_ParseRule_c m x W (by omega) hm)
          have hpf : M.psF x = (M.ParseRule x).1 := rfl
          rw [hpf] at HS
          clear hx hpf
          generalize M.ParseRule x = pr at *
          obtain ⟨⟨pl, pr⟩, ok2⟩ := pr
          simp only at HPR HS
          go_wp2_with fail
          refine (HPR.out _ (cellKeep (T3.out.trans (HQ.out.bel.mono (by omega))) HM.out)).mono ?_
          rintro e w3 ⟨rfl, hb⟩
          have HQ3 := Lib.hid (HQ.out.below hb)
          clear hb hcx
          have HQA := Lib.hid (fun (o p : Obj) => HQ3.out.below (((Below.refl w3.heap.size w3).alloc (Nat.le_refl _) o).alloc (by simp) p))
          have o1 := fun o => allocKeep1 HQ3.out.o1 o
          go_wp2_with (at_builtin; refine push_law_h rfl _ _ rfl slRule rfl (HQA.out _ _).own (us := [.string ⟨pl.toArray⟩, .string ⟨pr.toArray⟩]) rfl rfl (by simp [Value.oneCell']) (heap_alloc_new2 _ _ _ _) (HQA.out _ _).base (by omega) ?_; intro A5 c5 w5 hown5 hg5; have o5 := (HQA.out _ _).o1g hg5; have f5 := (HQA.out _ _).fog hg5)
          go_roundw
          case rel => exact ⟨i + 1, A5, c5, by omega, by go_num, (HQA.out _ _).push hg5 (by rw [HS.out]; exact hown5)⟩
          case measure => simp [intOf] <;> omega
      case neg =>
        obtain rfl : i = n := by omega
        have T4 := Lib.hid (T3.out.trans (HQ.out.bel.mono (Nat.le_of_lt hwg)))
        have r0 := cellBelow HQ.out.bel hwg R0.out
        have r1 := cellBelow HQ.out.bel hwg R1.out
        have f0 := (HQ.out.bel.frozen (p := ⟨w.heap.size, 0, none⟩) hwg).trans F0.out
        have f1 := (HQ.out.bel.frozen (p := ⟨w.heap.size, 1, none⟩) hwg).trans F1.out
        have o0 := HQ.out.o0
        have o1 := HQ.out.o1
        have hbs := HQ.out.base
        have HOW := Lib.hid (show wr.ownsRow (g + 1) 66 2 (.slice A' i c') i (ruls (M.psR l)) by have h := HQ.out.own; rw [HALL.out] at h; exact h)
        have HFV := Lib.hid (HFS.out v HPN.out A' c')
        obtain ⟨fs, hfs⟩ : ∃ fs, fs = M.FormatSystem v (M.psR l) := ⟨_, rfl⟩
        rw [← hfs] at HFV
        have HB4' := Lib.hid (fun h => HB4.out (by rw [← HPN.out]; exact h))
        have HOK' := Lib.hid (fun h h2 => HOK.out h (by rw [← HPN.out]; exact h2))
        rw [← hfs] at HOK' HB4'
        clear hfs HFS HB4 HOK HQ
        by_cases hl0 : l = []
        case pos =>
          have hno := HB6.out hl0
          have hle : l.isEmpty = true := by rw [hl0]; rfl
          clear hl0
          go_wp2_with fail
          try simp only [Exit.inBlock, Exit.then]
          refine bodyPost_ret (v := .tuple #[.agg #[.int .i64 0, .slice none 0 0], .bool false]) ?_ rfl (retPs_no hno ?_)
          · simp [results, Tryd.results29, go_sem, cell_set_ne, cell_set_eq _ r0, cell_two' r1]
          · exact (T4.out.setCell (by simp) _).setCell (by simp) _
        case neg =>
        have hle : l.isEmpty = false := by cases l with
          | nil => exact absurd rfl hl0
          | cons a r => rfl
        go_wp2_with fail
        refine (HFV.out _ (Rd.of_own HOW.out) (HT.out.below T4.out)).mono ?_
        rintro e w5 ⟨rfl, hb⟩
        replace r0 : w5.cell? ⟨w.heap.size, 0, none⟩ = some (.int .i64 0) := cellKeep hb r0
        replace r1 : w5.cell? ⟨w.heap.size, 1, none⟩ = some (.slice none 0 0) := cellKeep hb r1
        replace f0 : w5.frozen? ⟨w.heap.size, 0, none⟩ = false := ((bcell hb).2 _ _ (by omega)).trans f0
        replace f1 : w5.frozen? ⟨w.heap.size, 1, none⟩ = false := ((bcell hb).2 _ _ (by omega)).trans f1
        replace o0 : w5.cell? ⟨g, 0, none⟩ = some (.int .i64 v) := cellKeep hb o0
        replace o1 : w5.cell? ⟨g, 1, none⟩ = some (.slice A' i c') := cellKeep hb o1
        replace HOW := Lib.hid (own_below HOW.out hb)
        replace T4 := Lib.hid (T4.out.trans (hb.mono T4.out.size))
        replace hbs := Nat.le_trans hbs hb.size
        clear hb
        by_cases hfl : fs = l
        case neg =>
          have hno := HB4'.out hfl
          have hfe : (fs == l) = false := by simpa using hfl
          go_wp2_with fail
          try simp only [Exit.inBlock, Exit.then]
          refine bodyPost_ret (v := .tuple #[.agg #[.int .i64 0, .slice none 0 0], .bool false]) ?_ rfl (retPs_no hno ?_)
          · simp [results, Tryd.results29, go_sem, cell_set_ne, cell_set_eq _ r0, cell_two' r1]
          · exact (T4.out.setCell (by simp) _).setCell (by simp) _
        case pos =>
          have HY := Lib.hid (HOK'.out hl0 hfl)
          subst hfl
          go_wp2_with fail
          try simp only [Exit.inBlock, Exit.then]
          refine bodyPost_ret (v := .tuple #[.agg #[.int .i64 v, .slice A' i c'], .bool true]) ?_ rfl (retPs_yes (rs := _) HY.out HPN.out rfl HRLH.out.symm ?_ ?_)
          · simp [results, Tryd.results29, go_sem, cell_set_ne, cell_set_eq _ r0, cell_two' r1]
          · exact (Own.of_row (ownsRow_setCell_below (ownsRow_setCell_below HOW.out (by simp; omega) _) (by simp; omega) _)).mono (by omega)
          · exact (T4.out.setCell (by simp) _).setCell (by simp) _


end Go.Proofs.YtkdccehihpgcdaaDoor
