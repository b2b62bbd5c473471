/-
  Contracts and plain laws for the functions of this seat (texts joined: TurnR2 TurnR3 TurnI TraceN).
  Conditions: each text says its own.
-/

import Derived.Test.YtlohpphmamapeaaMt2
import Derived.Test.YtlohpphmamapeaaMt3
/-
  Region 10 of the program's TurnWork: whatever order is drawn, the same stands behind it.
  Conditions: what the text says of the state ahead of the region.
-/
namespace Go.Proofs.Ytlohpphmamapeaa
open Go.RowKit
set_option linter.unusedVariables false
set_option linter.unusedSimpArgs false
set_option maxRecDepth 100000 in
set_option maxHeartbeats 16000000 in
theorem turn_r10 {k t : Int} {A A6 : Option Addr} {b o n c p d g g5 c6 : Nat} {rs : List M.Rule} {ql qr u v : List UInt8} {w W9 w2 : World} (K2 : Act → World → Prop) (Q : Exit → Act → World → Prop) (hQ : ∀ c a w dst v, Q (.panic c) (a.put dst v) w → Q (.panic c) a w) {x7 x22 x23 x24 x25 x26 x27 x28 x29 x30 x31 x32 x33 x34 x35 x36 x37 x38 x39 x40 x41 x42 x43 x44 x45 x46 x47 x48 x49 x50 x51 x52 x53 x54 x55 x56 x57 x58 x59 x60 x61 x62 x63 x64 x65 x66 x67 x68 x69 x70 x71 x72 : Value} (hA : ∀ W, Below w.heap.size w W → Rd W 2 A n (ruls rs)) (hq : ∀ W, Below w.heap.size w W → W.cell? ⟨b, o, none⟩ = some (.string ⟨ql.toArray⟩) ∧ W.cell? ⟨b, o + 1, none⟩ = some (.string ⟨qr.toArray⟩))
    (hT1 : ∀ W, Rd W 2 A n (ruls rs) → Calls Try.prog 102 #[.agg #[.int .i64 k, .slice A n c], .string ⟨ql.toArray⟩] W fun e w' => e = .returned (.string ⟨u.toArray⟩) ∧ Below W.heap.size W w') (hT2 : ∀ W, Rd W 2 A n (ruls rs) → Calls Try.prog 102 #[.agg #[.int .i64 k, .slice A n c], .string ⟨qr.toArray⟩] W fun e w' => e = .returned (.string ⟨v.toArray⟩) ∧ Below W.heap.size W w')
    (q9 : CopyS w W9 k A n c (some ⟨b, o, none⟩) (p + 1) d t) (b2 : Below W9.heap.size W9 w2) (t5 : W9.cell? ⟨g5, 0, none⟩ = some (.int .i64 k) ∧ W9.cell? ⟨g5, 1, none⟩ = some (.slice A n c))
    (cont2 : ∀ (W : World) (g7 : Nat) (v22 v23 v24 v25 v26 v27 v28 v29 v30 v31 v32 v33 v34 v35 v36 v37 v38 v39 v40 v41 v42 v43 v44 v45 v46 v47 v48 v49 v50 v51 v52 v53 v54 v55 v56 v57 v58 v59 v60 v61 v62 v63 v64 v65 v66 v67 v68 v69 v70 v71 v72 : Value), Below w2.heap.size w2 W → W.heap[g7]? = some (.cells #[.string ⟨u.toArray⟩, .string ⟨v.toArray⟩] 84 (0, 0)) → w2.heap.size ≤ g7 → K2 ⟨#[.agg #[.int .i64 k, .slice A n c, .slice (some ⟨b, o, none⟩) (p + 1) d, .int .i64 t], .pointer (some ⟨w.heap.size, 0, none⟩), .pointer (some ⟨w.heap.size + 1, 0, none⟩), .int .i64 0, .pointer (some ⟨g, 0, none⟩), .pointer (some ⟨g5, 0, none⟩), .slice A6 p c6, .pointer (some ⟨g7, 0, none⟩), undef, undef, undef, undef, undef, undef, undef, undef, undef, undef, undef, undef, undef, undef, v22, v23, v24, v25, v26, v27, v28, v29, v30, v31, v32, v33, v34, v35, v36, v37, v38, v39, v40, v41, v42, v43, v44, v45, v46, v47, v48, v49, v50, v51, v52, v53, v54, v55, v56, v57, v58, v59, v60, v61, v62, v63, v64, v65, v66, v67, v68, v69, v70, v71, v72, undef, undef, undef, undef, undef, undef, undef, undef, undef, undef, undef, undef, undef, undef, undef, undef, undef, undef, undef, undef, undef, undef, undef, undef, undef, undef, undef, undef, undef, undef, undef, undef, undef, undef, undef, undef, undef, undef, undef, undef, undef, undef, undef, undef, undef, undef, undef, undef, undef, undef, undef, undef, undef, undef, undef, undef, undef, undef, undef, undef, undef, undef, undef, undef, undef, undef, undef, undef, undef, undef, undef, undef, undef, undef, undef, undef, undef, undef, undef, undef, undef, undef, undef, undef, undef, undef, undef, undef, undef, undef, undef, undef, undef, undef, undef, undef, undef, undef, undef, undef, undef, undef, undef, undef, undef, undef, undef, undef, undef, undef, undef, undef, undef, undef, undef, undef, undef, undef, undef, undef, undef, undef, undef, undef, undef, undef, undef, undef, undef, undef, undef, undef, undef, undef, undef, undef, undef, undef, undef, undef, undef, undef, undef, undef, undef], []⟩ W) :
    Code.wp Try.prog ((Try.f44.body.bind (subCode 10)).getD .skip) (Exit.then K2 Q) ⟨#[.agg #[.int .i64 k, .slice A n c, .slice (some ⟨b, o, none⟩) (p + 1) d, .int .i64 t], .pointer (some ⟨w.heap.size, 0, none⟩), .pointer (some ⟨w.heap.size + 1, 0, none⟩), .int .i64 0, .pointer (some ⟨g, 0, none⟩), .pointer (some ⟨g5, 0, none⟩), .slice A6 p c6, x7, undef, undef, undef, undef, undef, undef, undef, undef, undef, undef, undef, undef, undef, undef, x22, x23, x24, x25, x26, x27, x28, x29, x30, x31, x32, x33, x34, x35, x36, x37, x38, x39, x40, x41, x42, x43, x44, x45, x46, x47, x48, x49, x50, x51, x52, x53, x54, x55, x56, x57, x58, x59, x60, x61, x62, x63, x64, x65, x66, x67, x68, x69, x70, x71, x72, undef, undef, undef, undef, undef, undef, undef, undef, undef, undef, undef, undef, undef, undef, undef, undef, undef, undef, undef, undef, undef, undef, undef, undef, undef, undef, undef, undef, undef, undef, undef, undef, undef, undef, undef, undef, undef, undef, undef, undef, undef, undef, undef, undef, undef, undef, undef, undef, undef, undef, undef, undef, undef, undef, undef, undef, undef, undef, undef, undef, undef, undef, undef, undef, undef, undef, undef, undef, undef, undef, undef, undef, undef, undef, undef, undef, undef, undef, undef, undef, undef, undef, undef, undef, undef, undef, undef, undef, undef, undef, undef, undef, undef, undef, undef, undef, undef, undef, undef, undef, undef, undef, undef, undef, undef, undef, undef, undef, undef, undef, undef, undef, undef, undef, undef, undef, undef, undef, undef, undef, undef, undef, undef, undef, undef, undef, undef, undef, undef, undef, undef, undef, undef, undef, undef, undef, undef, undef, undef, undef, undef, undef, undef, undef, undef], []⟩ w2 := by
  have Q9 := Lib.hid q9
  have B2 := Lib.hid b2
  have T5 := Lib.hid t5
  have HQ := Lib.hid hq
  have HA := Lib.hid hA
  have HT1 := Lib.hid hT1
  have HT2 := Lib.hid hT2
  clear q9 b2 t5 hq hA hT1 hT2
  show Code.wp Try.prog (Code.region 10 _ true) _ _ _
  have KD := (Below.refl w2.heap.size w2).drew
  have HWW := Lib.hid (fun W (hb : Below w2.heap.size w2 W) => Q9.out.2.2.2.2.trans ((B2.out.trans (hb.mono B2.out.size)).mono Q9.out.2.2.2.2.size))
  have TD : w2.drew.cell? ⟨g5, 0, none⟩ = some (.int .i64 k) ∧ w2.drew.cell? ⟨g5, 1, none⟩ = some (.slice A n c) ∧ w2.drew.cell? ⟨w.heap.size, 2, none⟩ = some (.slice (some ⟨b, o, none⟩) (p + 1) d) ∧ w2.drew.cell? ⟨b, o, none⟩ = some (.string ⟨ql.toArray⟩) ∧ w2.drew.cell? ⟨b, o + 1, none⟩ = some (.string ⟨qr.toArray⟩) := ⟨cellKeep KD (cellKeep B2.out T5.out.1), cellKeep KD (cellKeep B2.out T5.out.2), cellKeep KD (cellKeep B2.out Q9.out.1.2.2.1), (HQ.out _ (HWW.out _ KD)).1, (HQ.out _ (HWW.out _ KD)).2⟩
  refine wp_region_U (fun w' => w'.cell? ⟨g5, 0, none⟩ = some (.int .i64 k) ∧ w'.cell? ⟨g5, 1, none⟩ = some (.slice A n c) ∧ w'.cell? ⟨w.heap.size, 2, none⟩ = some (.slice (some ⟨b, o, none⟩) (p + 1) d) ∧ w'.cell? ⟨b, o, none⟩ = some (.string ⟨ql.toArray⟩) ∧ w'.cell? ⟨b, o + 1, none⟩ = some (.string ⟨qr.toArray⟩)) 16 (by kernel_rfl) (TD) (fun hHeld => ?_)
  refine takeU (i := 0) (v := ?v2001) rfl (by kernel_rfl) (fun _ _ _ h => hQ _ _ _ _ _ h) (Or.inl ⟨by rfl, ?hy2001⟩) (by assumption) ?rest2001
  case hy2001 => (intro w hSw; (try dsimp only at hSw); (first | (go_simp; done) | (go_simp; with_reducible rfl)))
  case rest2001 =>
    try simp only [Act.put, List.setIfInBounds_toArray, List.set_cons_zero, List.set_cons_succ]
    refine takeU (i := 1) (v := ?v2002) rfl (by kernel_rfl) (fun _ _ _ h => hQ _ _ _ _ _ h) (Or.inl ⟨by rfl, ?hy2002⟩) (by assumption) ?rest2002
    case hy2002 => (intro w hSw; (try dsimp only at hSw); (first | (go_simp; done) | (go_simp; with_reducible rfl)))
    case rest2002 =>
      try simp only [Act.put, List.setIfInBounds_toArray, List.set_cons_zero, List.set_cons_succ]
      refine takeU (i := 2) (v := ?v2003) rfl (by kernel_rfl) (fun _ _ _ h => hQ _ _ _ _ _ h) (Or.inl ⟨by rfl, ?hy2003⟩) (by assumption) ?rest2003
      case hy2003 => (intro w hSw; (try dsimp only at hSw); (first | (go_simp; done) | (go_simp; with_reducible rfl)))
      case rest2003 =>
        try simp only [Act.put, List.setIfInBounds_toArray, List.set_cons_zero, List.set_cons_succ]
        refine takeU (i := 3) (v := ?v2004) rfl (by kernel_rfl) (fun _ _ _ h => hQ _ _ _ _ _ h) (Or.inl ⟨by rfl, ?hy2004⟩) (by assumption) ?rest2004
        case hy2004 => (intro w hSw; (try dsimp only at hSw); (first | (go_simp; done) | (go_simp; with_reducible rfl)))
        case rest2004 =>
          try simp only [Act.put, List.setIfInBounds_toArray, List.set_cons_zero, List.set_cons_succ]
          refine takeU (i := 4) (v := ?v2005) rfl (by kernel_rfl) (fun _ _ _ h => hQ _ _ _ _ _ h) (Or.inl ⟨by rfl, ?hy2005⟩) (by assumption) ?rest2005
          case hy2005 => (intro w hSw; (try dsimp only at hSw); (first | (go_simp; done) | (go_simp; with_reducible rfl)))
          case rest2005 =>
            try simp only [Act.put, List.setIfInBounds_toArray, List.set_cons_zero, List.set_cons_succ]
            refine takeU (i := 5) (v := ?v2006) rfl (by kernel_rfl) (fun _ _ _ h => hQ _ _ _ _ _ h) (Or.inl ⟨by rfl, ?hy2006⟩) (by assumption) ?rest2006
            case hy2006 => (intro w hSw; (try dsimp only at hSw); (first | (go_simp; done) | (go_simp; with_reducible rfl)))
            case rest2006 =>
              try simp only [Act.put, List.setIfInBounds_toArray, List.set_cons_zero, List.set_cons_succ]
              refine takeU (i := 7) (v := ?v2007) rfl (by kernel_rfl) (fun _ _ _ h => hQ _ _ _ _ _ h) (Or.inl ⟨by rfl, ?hy2007⟩) (by assumption) ?rest2007
              case hy2007 => (intro w hSw; (try dsimp only at hSw); (first | (go_simp; done) | (go_simp; with_reducible rfl)))
              case rest2007 =>
                try simp only [Act.put, List.setIfInBounds_toArray, List.set_cons_zero, List.set_cons_succ]
                refine takeU (i := 8) (v := ?v2008) rfl (by kernel_rfl) (fun _ _ _ h => hQ _ _ _ _ _ h) (Or.inl ⟨by rfl, ?hy2008⟩) (by assumption) ?rest2008
                case hy2008 => (intro w hSw; (try dsimp only at hSw); (first | (go_simp; done) | (go_simp; with_reducible rfl)))
                case rest2008 =>
                  try simp only [Act.put, List.setIfInBounds_toArray, List.set_cons_zero, List.set_cons_succ]
                  refine takeU (i := 9) (v := ?v2009) rfl (by kernel_rfl) (fun _ _ _ h => hQ _ _ _ _ _ h) (Or.inl ⟨by rfl, ?hy2009⟩) (by assumption) ?rest2009
                  case hy2009 => (intro w hSw; (try dsimp only at hSw); (first | (go_simp; done) | (go_simp; with_reducible rfl)))
                  case rest2009 =>
                    try simp only [Act.put, List.setIfInBounds_toArray, List.set_cons_zero, List.set_cons_succ]
                    refine takeU (i := 10) (v := ?v2010) rfl (by kernel_rfl) (fun _ _ _ h => hQ _ _ _ _ _ h) (Or.inl ⟨by rfl, ?hy2010⟩) (by assumption) ?rest2010
                    case hy2010 => (intro w hSw; (try dsimp only at hSw); (first | (go_simp; done) | (go_simp; with_reducible rfl)))
                    case rest2010 =>
                      try simp only [Act.put, List.setIfInBounds_toArray, List.set_cons_zero, List.set_cons_succ]
                      refine takeU (i := 11) (v := ?v2011) rfl (by kernel_rfl) (fun _ _ _ h => hQ _ _ _ _ _ h) (Or.inl ⟨by rfl, ?hy2011⟩) (by assumption) ?rest2011
                      case hy2011 => (intro w hSw; (try dsimp only at hSw); (first | (go_simp; done) | (go_simp; with_reducible rfl)))
                      case rest2011 =>
                        try simp only [Act.put, List.setIfInBounds_toArray, List.set_cons_zero, List.set_cons_succ]
                        refine takeU (i := 12) (v := ?v2012) rfl (by kernel_rfl) (fun _ _ _ h => hQ _ _ _ _ _ h) (Or.inl ⟨by rfl, ?hy2012⟩) (by assumption) ?rest2012
                        case hy2012 => (intro w hSw; (try dsimp only at hSw); (first | (go_simp; done) | (go_simp; with_reducible rfl)))
                        case rest2012 =>
                          try simp only [Act.put, List.setIfInBounds_toArray, List.set_cons_zero, List.set_cons_succ]
                          refine wpAnyU_ready (rs := [6, 15]) (by kernel_rfl) (by simp) ?_
                          refine consU rfl (fun K hK => ?_) ?_
                          · go_simp
                            go_at_call 102
                            refine (HT1.out _ (HA.out _ (HWW.out _ KD))).mono ?_
                            rintro e wc1 ⟨rfl, hbc1⟩
                            have K1 := KD.trans (hbc1.mono KD.size)
                            have T1 : _ ∧ _ ∧ _ ∧ _ ∧ _ := ⟨cellKeep hbc1 TD.1, cellKeep hbc1 TD.2.1, cellKeep hbc1 TD.2.2.1, cellKeep hbc1 TD.2.2.2.1, cellKeep hbc1 TD.2.2.2.2⟩
                            refine hK.out _ _ (T1) (fun hHeld => ?_)
                            clear hK K
                            try simp only [Act.put, List.setIfInBounds_toArray, List.set_cons_zero, List.set_cons_succ]
                            refine wpAnyU_ready (rs := [13, 15]) (by kernel_rfl) (by simp) ?_
                            refine consU rfl (fun K hK => ?_) ?_
                            · go_simp
                              go_at_call 102
                              refine (HT2.out _ (HA.out _ (HWW.out _ K1))).mono ?_
                              rintro e wc2 ⟨rfl, hbc2⟩
                              have K2 := K1.trans (hbc2.mono K1.size)
                              have T2 : _ ∧ _ ∧ _ ∧ _ ∧ _ := ⟨cellKeep hbc2 T1.1, cellKeep hbc2 T1.2.1, cellKeep hbc2 T1.2.2.1, cellKeep hbc2 T1.2.2.2.1, cellKeep hbc2 T1.2.2.2.2⟩
                              refine hK.out _ _ (T2) (fun hHeld => ?_)
                              clear hK K
                              try simp only [Act.put, List.setIfInBounds_toArray, List.set_cons_zero, List.set_cons_succ]
                              refine takeU (i := 14) (v := ?v2013) rfl (by kernel_rfl) (fun _ _ _ h => hQ _ _ _ _ _ h) (Or.inl ⟨by rfl, ?hy2013⟩) (by assumption) ?rest2013
                              case hy2013 => (intro w hSw; (try dsimp only at hSw); (first | (go_simp; done) | (go_simp; with_reducible rfl)))
                              case rest2013 =>
                                try simp only [Act.put, List.setIfInBounds_toArray, List.set_cons_zero, List.set_cons_succ]
                                refine wpAnyU_ready (rs := [15]) (by kernel_rfl) (by simp) ?_
                                refine consU rfl (fun K hK => ?_) ?_
                                · have NZ : w2.heap.size ≤ wc2.heap.size := by have h2 := K2.size; first | omega | (simp at h2 ⊢; omega)
                                  go_simp
                                  have K3 := K2.trans ((ref_al _ (.cells #[.string ⟨#[]⟩, .string ⟨#[]⟩] 84)).mono K2.size)
                                  have T3 : _ ∧ _ ∧ _ ∧ _ ∧ _ := ⟨cellKeep (ref_al _ (.cells #[.string ⟨#[]⟩, .string ⟨#[]⟩] 84)) T2.1, cellKeep (ref_al _ (.cells #[.string ⟨#[]⟩, .string ⟨#[]⟩] 84)) T2.2.1, cellKeep (ref_al _ (.cells #[.string ⟨#[]⟩, .string ⟨#[]⟩] 84)) T2.2.2.1, cellKeep (ref_al _ (.cells #[.string ⟨#[]⟩, .string ⟨#[]⟩] 84)) T2.2.2.2.1, cellKeep (ref_al _ (.cells #[.string ⟨#[]⟩, .string ⟨#[]⟩] 84)) T2.2.2.2.2⟩
                                  have G3 : ((wc2.alloc (.cells #[.string ⟨#[]⟩, .string ⟨#[]⟩] 84))).heap[wc2.heap.size]? = some (.cells #[.string ⟨#[]⟩, .string ⟨#[]⟩] 84 (0, 0)) := heap_alloc_new _ _
                                  refine hK.out _ _ (T3) (fun hHeld => ?_)
                                  clear hK K
                                  try simp only [Act.put, List.setIfInBounds_toArray, List.set_cons_zero, List.set_cons_succ]
                                  refine wpAnyU_ready (rs := [16]) (by kernel_rfl) (by simp) ?_
                                  refine lastU rfl (fun K hK => ?_)
                                  have y0 : ((wc2.alloc (.cells #[.string ⟨#[]⟩, .string ⟨#[]⟩] 84))).cell? ⟨wc2.heap.size, 0, none⟩ = some (.string ⟨#[]⟩) := (cell_of_row _ _ 0 _ _ _ G3).trans rfl
                                  have z0 : ((wc2.alloc (.cells #[.string ⟨#[]⟩, .string ⟨#[]⟩] 84))).frozen? ⟨wc2.heap.size, 0, none⟩ = false := frozen_of_row _ _ 0 _ _ G3
                                  have y1 : ((wc2.alloc (.cells #[.string ⟨#[]⟩, .string ⟨#[]⟩] 84))).cell? ⟨wc2.heap.size, 1, none⟩ = some (.string ⟨#[]⟩) := (cell_of_row _ _ 1 _ _ _ G3).trans rfl
                                  have z1 : ((wc2.alloc (.cells #[.string ⟨#[]⟩, .string ⟨#[]⟩] 84))).frozen? ⟨wc2.heap.size, 1, none⟩ = false := frozen_of_row _ _ 1 _ _ G3
                                  go_simp
                                  refine hK.out _ _ ?_
                                  clear hK K
                                  try simp only [Act.put, List.setIfInBounds_toArray, List.set_cons_zero, List.set_cons_succ]
                                  refine wpAnyU_done (by kernel_rfl) ?_ _
                                  exact cont2 _ _ _ _ _ _ _ _ _ _ _ _ _ _ _ _ _ _ _ _ _ _ _ _ _ _ _ _ _ _ _ _ _ _ _ _ _ _ _ _ _ _ _ _ _ _ _ _ _ _ _ _ _ (K2.alloc NZ _) (heap_alloc_new _ _) NZ
                                exact AllU.nil
                            refine consU rfl (fun K hK => ?_) ?_
                            · have NZ : w2.heap.size ≤ wc1.heap.size := by have h2 := K1.size; first | omega | (simp at h2 ⊢; omega)
                              go_simp
                              have K2 := K1.trans ((ref_al _ (.cells #[.string ⟨#[]⟩, .string ⟨#[]⟩] 84)).mono K1.size)
                              have T2 : _ ∧ _ ∧ _ ∧ _ ∧ _ := ⟨cellKeep (ref_al _ (.cells #[.string ⟨#[]⟩, .string ⟨#[]⟩] 84)) T1.1, cellKeep (ref_al _ (.cells #[.string ⟨#[]⟩, .string ⟨#[]⟩] 84)) T1.2.1, cellKeep (ref_al _ (.cells #[.string ⟨#[]⟩, .string ⟨#[]⟩] 84)) T1.2.2.1, cellKeep (ref_al _ (.cells #[.string ⟨#[]⟩, .string ⟨#[]⟩] 84)) T1.2.2.2.1, cellKeep (ref_al _ (.cells #[.string ⟨#[]⟩, .string ⟨#[]⟩] 84)) T1.2.2.2.2⟩
                              have G2 : ((wc1.alloc (.cells #[.string ⟨#[]⟩, .string ⟨#[]⟩] 84))).heap[wc1.heap.size]? = some (.cells #[.string ⟨#[]⟩, .string ⟨#[]⟩] 84 (0, 0)) := heap_alloc_new _ _
                              refine hK.out _ _ (T2) (fun hHeld => ?_)
                              clear hK K
                              try simp only [Act.put, List.setIfInBounds_toArray, List.set_cons_zero, List.set_cons_succ]
                              refine wpAnyU_ready (rs := [13]) (by kernel_rfl) (by simp) ?_
                              refine consU rfl (fun K hK => ?_) ?_
                              · go_simp
                                go_at_call 102
                                refine (HT2.out _ (HA.out _ (HWW.out _ K2))).mono ?_
                                rintro e wc2 ⟨rfl, hbc2⟩
                                have K3 := K2.trans (hbc2.mono K2.size)
                                have T3 : _ ∧ _ ∧ _ ∧ _ ∧ _ := ⟨cellKeep hbc2 T2.1, cellKeep hbc2 T2.2.1, cellKeep hbc2 T2.2.2.1, cellKeep hbc2 T2.2.2.2.1, cellKeep hbc2 T2.2.2.2.2⟩
                                have G3 := (hbc2.block _ (Array.getElem?_eq_some_iff.1 G2).1).trans G2
                                refine hK.out _ _ (T3) (fun hHeld => ?_)
                                clear hK K
                                try simp only [Act.put, List.setIfInBounds_toArray, List.set_cons_zero, List.set_cons_succ]
                                refine takeU (i := 14) (v := ?v2014) rfl (by kernel_rfl) (fun _ _ _ h => hQ _ _ _ _ _ h) (Or.inl ⟨by rfl, ?hy2014⟩) (by assumption) ?rest2014
                                case hy2014 => (intro w hSw; (try dsimp only at hSw); (first | (go_simp; done) | (go_simp; with_reducible rfl)))
                                case rest2014 =>
                                  try simp only [Act.put, List.setIfInBounds_toArray, List.set_cons_zero, List.set_cons_succ]
                                  refine wpAnyU_ready (rs := [16]) (by kernel_rfl) (by simp) ?_
                                  refine lastU rfl (fun K hK => ?_)
                                  have y0 : (wc2).cell? ⟨wc1.heap.size, 0, none⟩ = some (.string ⟨#[]⟩) := (cell_of_row _ _ 0 _ _ _ G3).trans rfl
                                  have z0 : (wc2).frozen? ⟨wc1.heap.size, 0, none⟩ = false := frozen_of_row _ _ 0 _ _ G3
                                  have y1 : (wc2).cell? ⟨wc1.heap.size, 1, none⟩ = some (.string ⟨#[]⟩) := (cell_of_row _ _ 1 _ _ _ G3).trans rfl
                                  have z1 : (wc2).frozen? ⟨wc1.heap.size, 1, none⟩ = false := frozen_of_row _ _ 1 _ _ G3
                                  go_simp
                                  refine hK.out _ _ ?_
                                  clear hK K
                                  try simp only [Act.put, List.setIfInBounds_toArray, List.set_cons_zero, List.set_cons_succ]
                                  refine wpAnyU_done (by kernel_rfl) ?_ _
                                  exact cont2 _ _ _ _ _ _ _ _ _ _ _ _ _ _ _ _ _ _ _ _ _ _ _ _ _ _ _ _ _ _ _ _ _ _ _ _ _ _ _ _ _ _ _ _ _ _ _ _ _ _ _ _ _ ((K3.setCell NZ _).setCell NZ _) (heap_setCell_same _ _ 1 _ _ _ (heap_setCell_same _ _ 0 _ _ _ G3)) NZ
                              exact AllU.nil
                            exact AllU.nil
                          refine consU rfl (fun K hK => ?_) ?_
                          · have NZ : w2.heap.size ≤ w2.heap.size := by have h2 := KD.size; first | omega | (simp at h2 ⊢; omega)
                            go_simp
                            have K1 := KD.trans ((ref_al _ (.cells #[.string ⟨#[]⟩, .string ⟨#[]⟩] 84)).mono KD.size)
                            have T1 : _ ∧ _ ∧ _ ∧ _ ∧ _ := ⟨cellKeep (ref_al _ (.cells #[.string ⟨#[]⟩, .string ⟨#[]⟩] 84)) TD.1, cellKeep (ref_al _ (.cells #[.string ⟨#[]⟩, .string ⟨#[]⟩] 84)) TD.2.1, cellKeep (ref_al _ (.cells #[.string ⟨#[]⟩, .string ⟨#[]⟩] 84)) TD.2.2.1, cellKeep (ref_al _ (.cells #[.string ⟨#[]⟩, .string ⟨#[]⟩] 84)) TD.2.2.2.1, cellKeep (ref_al _ (.cells #[.string ⟨#[]⟩, .string ⟨#[]⟩] 84)) TD.2.2.2.2⟩
                            have G1 : ((w2.drew.alloc (.cells #[.string ⟨#[]⟩, .string ⟨#[]⟩] 84))).heap[w2.heap.size]? = some (.cells #[.string ⟨#[]⟩, .string ⟨#[]⟩] 84 (0, 0)) := heap_alloc_new _ _
                            refine hK.out _ _ (T1) (fun hHeld => ?_)
                            clear hK K
                            try simp only [Act.put, List.setIfInBounds_toArray, List.set_cons_zero, List.set_cons_succ]
                            refine wpAnyU_ready (rs := [6]) (by kernel_rfl) (by simp) ?_
                            refine consU rfl (fun K hK => ?_) ?_
                            · go_simp
                              go_at_call 102
                              refine (HT1.out _ (HA.out _ (HWW.out _ K1))).mono ?_
                              rintro e wc1 ⟨rfl, hbc1⟩
                              have K2 := K1.trans (hbc1.mono K1.size)
                              have T2 : _ ∧ _ ∧ _ ∧ _ ∧ _ := ⟨cellKeep hbc1 T1.1, cellKeep hbc1 T1.2.1, cellKeep hbc1 T1.2.2.1, cellKeep hbc1 T1.2.2.2.1, cellKeep hbc1 T1.2.2.2.2⟩
                              have G2 := (hbc1.block _ (Array.getElem?_eq_some_iff.1 G1).1).trans G1
                              refine hK.out _ _ (T2) (fun hHeld => ?_)
                              clear hK K
                              try simp only [Act.put, List.setIfInBounds_toArray, List.set_cons_zero, List.set_cons_succ]
                              refine wpAnyU_ready (rs := [13]) (by kernel_rfl) (by simp) ?_
                              refine consU rfl (fun K hK => ?_) ?_
                              · go_simp
                                go_at_call 102
                                refine (HT2.out _ (HA.out _ (HWW.out _ K2))).mono ?_
                                rintro e wc2 ⟨rfl, hbc2⟩
                                have K3 := K2.trans (hbc2.mono K2.size)
                                have T3 : _ ∧ _ ∧ _ ∧ _ ∧ _ := ⟨cellKeep hbc2 T2.1, cellKeep hbc2 T2.2.1, cellKeep hbc2 T2.2.2.1, cellKeep hbc2 T2.2.2.2.1, cellKeep hbc2 T2.2.2.2.2⟩
                                have G3 := (hbc2.block _ (Array.getElem?_eq_some_iff.1 G2).1).trans G2
                                refine hK.out _ _ (T3) (fun hHeld => ?_)
                                clear hK K
                                try simp only [Act.put, List.setIfInBounds_toArray, List.set_cons_zero, List.set_cons_succ]
                                refine takeU (i := 14) (v := ?v2015) rfl (by kernel_rfl) (fun _ _ _ h => hQ _ _ _ _ _ h) (Or.inl ⟨by rfl, ?hy2015⟩) (by assumption) ?rest2015
                                case hy2015 => (intro w hSw; (try dsimp only at hSw); (first | (go_simp; done) | (go_simp; with_reducible rfl)))
                                case rest2015 =>
                                  try simp only [Act.put, List.setIfInBounds_toArray, List.set_cons_zero, List.set_cons_succ]
                                  refine wpAnyU_ready (rs := [16]) (by kernel_rfl) (by simp) ?_
                                  refine lastU rfl (fun K hK => ?_)
                                  have y0 : (wc2).cell? ⟨w2.heap.size, 0, none⟩ = some (.string ⟨#[]⟩) := (cell_of_row _ _ 0 _ _ _ G3).trans rfl
                                  have z0 : (wc2).frozen? ⟨w2.heap.size, 0, none⟩ = false := frozen_of_row _ _ 0 _ _ G3
                                  have y1 : (wc2).cell? ⟨w2.heap.size, 1, none⟩ = some (.string ⟨#[]⟩) := (cell_of_row _ _ 1 _ _ _ G3).trans rfl
                                  have z1 : (wc2).frozen? ⟨w2.heap.size, 1, none⟩ = false := frozen_of_row _ _ 1 _ _ G3
                                  go_simp
                                  refine hK.out _ _ ?_
                                  clear hK K
                                  try simp only [Act.put, List.setIfInBounds_toArray, List.set_cons_zero, List.set_cons_succ]
                                  refine wpAnyU_done (by kernel_rfl) ?_ _
                                  exact cont2 _ _ _ _ _ _ _ _ _ _ _ _ _ _ _ _ _ _ _ _ _ _ _ _ _ _ _ _ _ _ _ _ _ _ _ _ _ _ _ _ _ _ _ _ _ _ _ _ _ _ _ _ _ ((K3.setCell NZ _).setCell NZ _) (heap_setCell_same _ _ 1 _ _ _ (heap_setCell_same _ _ 0 _ _ _ G3)) NZ
                              exact AllU.nil
                            exact AllU.nil
                          exact AllU.nil
end Go.Proofs.Ytlohpphmamapeaa
/-
  Region 25 of the program's TurnWork: whatever order is drawn, the same stands behind it.
  Conditions: what the text says of the state ahead of the region.
-/
namespace Go.Proofs.Ytlohpphmamapeaa
open Go.RowKit
set_option linter.unusedVariables false
set_option linter.unusedSimpArgs false
set_option maxRecDepth 100000 in
set_option maxHeartbeats 16000000 in
theorem turn_r25 {k : Int} {A A6' A8 : Option Addr} {n c g g5 g7 n6 c6' n8 c8 : Nat} {ra rb : List UInt8} {q6 ks : List M.Rule} {w W9 wr : World} (K3 : Act → World → Prop) (Q : Exit → Act → World → Prop) (hQ : ∀ c a w dst v, Q (.panic c) (a.put dst v) w → Q (.panic c) a w) {x0 x9 x10 x11 x12 x13 x14 x15 x16 x17 x18 x19 x20 x21 x22 x23 x24 x25 x26 x27 x28 x29 x30 x31 x32 x33 x34 x35 x36 x37 x38 x39 x40 x41 x42 x43 x44 x45 x46 x47 x48 x49 x50 x51 x52 x53 x54 x55 x56 x57 x58 x59 x60 x61 x62 x63 x64 x65 x66 x67 x68 x69 x70 x71 x72 x73 x74 x75 x76 x77 x78 x79 x80 x81 x82 x83 x84 x85 x86 x87 x88 x89 x90 x91 x92 x93 x94 x95 x96 x97 x98 x99 x100 x101 x102 x103 x104 x105 x106 x107 x108 x109 x110 x111 x112 x113 x114 x115 x116 x117 x118 x119 x120 x121 x122 x123 x124 x125 x126 : Value} (hok : ∀ u, u ∈ ruls ks → u.oneCell' = true) (hn8b : n8 ≤ 12) (hck : ∀ W, Rd W 2 A8 n8 (ruls ks) → Calls Try.prog 101 #[.slice A8 n8 c8] W (RetRow 84 2 n8 (ruls ks) W)) (hq : LoopA W9 wr 84 g7 ⟨ra, rb⟩ A6' n6 c6' q6 A8 n8 c8 ks) (t5 : W9.cell? ⟨g5, 0, none⟩ = some (.int .i64 k) ∧ W9.cell? ⟨g5, 1, none⟩ = some (.slice A n c))
    (cont3 : ∀ (W : World) (g11 : Nat) (A11 : Option Addr) (c11 : Nat) (v0 v9 v10 v12 v13 v14 v15 v16 v17 v18 v19 v20 v21 v22 v23 v24 v25 v26 v27 v28 v29 v30 v31 v32 v33 v34 v35 v36 v37 v38 v39 v40 v41 v42 v43 v44 v45 v46 v47 v48 v49 v50 v51 v52 v53 v54 v55 v56 v57 v58 v59 v60 v61 v62 v63 v64 v65 v66 v67 v68 v69 v70 v71 v72 v73 v74 v75 v76 v77 v78 v79 v80 v81 v82 v83 v84 v85 v86 v87 v88 v89 v90 v91 v92 v93 v94 v95 v96 v97 v98 v99 v100 v101 v102 v103 v104 v105 v106 v107 v108 v109 v110 v111 v112 v113 v114 v115 v116 v117 v118 v119 v120 v121 v122 v123 v124 v125 v126 : Value), Below wr.heap.size wr W → W.cell? ⟨g11, 0, none⟩ = some (.int .i64 k) → W.cell? ⟨g11, 1, none⟩ = some (.slice A11 (n8 + 1) c11) → Rd W 2 A11 (n8 + 1) (ruls (ks ++ [⟨ra, rb⟩])) → K3 ⟨#[v0, .pointer (some ⟨w.heap.size, 0, none⟩), .pointer (some ⟨w.heap.size + 1, 0, none⟩), .int .i64 0, .pointer (some ⟨g, 0, none⟩), .pointer (some ⟨g5, 0, none⟩), .slice A6' n6 c6', .pointer (some ⟨g7, 0, none⟩), .slice A8 n8 c8, v9, v10, .pointer (some ⟨g11, 0, none⟩), v12, v13, v14, v15, v16, v17, v18, v19, v20, v21, v22, v23, v24, v25, v26, v27, v28, v29, v30, v31, v32, v33, v34, v35, v36, v37, v38, v39, v40, v41, v42, v43, v44, v45, v46, v47, v48, v49, v50, v51, v52, v53, v54, v55, v56, v57, v58, v59, v60, v61, v62, v63, v64, v65, v66, v67, v68, v69, v70, v71, v72, v73, v74, v75, v76, v77, v78, v79, v80, v81, v82, v83, v84, v85, v86, v87, v88, v89, v90, v91, v92, v93, v94, v95, v96, v97, v98, v99, v100, v101, v102, v103, v104, v105, v106, v107, v108, v109, v110, v111, v112, v113, v114, v115, v116, v117, v118, v119, v120, v121, v122, v123, v124, v125, v126, undef, undef, undef, undef, undef, undef, undef, undef, undef, undef, undef, undef, undef, undef, undef, undef, undef, undef, undef, undef, undef, undef, undef, undef, undef, undef, undef, undef, undef, undef, undef, undef, undef, undef, undef, undef, undef, undef, undef, undef, undef, undef, undef, undef, undef, undef, undef, undef, undef, undef, undef, undef, undef, undef, undef, undef, undef, undef, undef, undef, undef, undef, undef, undef, undef, undef, undef, undef, undef, undef, undef, undef, undef, undef, undef, undef, undef, undef, undef, undef, undef, undef, undef, undef, undef, undef, undef, undef, undef, undef, undef], []⟩ W) :
    Code.wp Try.prog ((Try.f44.body.bind (subCode 25)).getD .skip) (Exit.then K3 Q) ⟨#[x0, .pointer (some ⟨w.heap.size, 0, none⟩), .pointer (some ⟨w.heap.size + 1, 0, none⟩), .int .i64 0, .pointer (some ⟨g, 0, none⟩), .pointer (some ⟨g5, 0, none⟩), .slice A6' n6 c6', .pointer (some ⟨g7, 0, none⟩), .slice A8 n8 c8, x9, x10, x11, x12, x13, x14, x15, x16, x17, x18, x19, x20, x21, x22, x23, x24, x25, x26, x27, x28, x29, x30, x31, x32, x33, x34, x35, x36, x37, x38, x39, x40, x41, x42, x43, x44, x45, x46, x47, x48, x49, x50, x51, x52, x53, x54, x55, x56, x57, x58, x59, x60, x61, x62, x63, x64, x65, x66, x67, x68, x69, x70, x71, x72, x73, x74, x75, x76, x77, x78, x79, x80, x81, x82, x83, x84, x85, x86, x87, x88, x89, x90, x91, x92, x93, x94, x95, x96, x97, x98, x99, x100, x101, x102, x103, x104, x105, x106, x107, x108, x109, x110, x111, x112, x113, x114, x115, x116, x117, x118, x119, x120, x121, x122, x123, x124, x125, x126, undef, undef, undef, undef, undef, undef, undef, undef, undef, undef, undef, undef, undef, undef, undef, undef, undef, undef, undef, undef, undef, undef, undef, undef, undef, undef, undef, undef, undef, undef, undef, undef, undef, undef, undef, undef, undef, undef, undef, undef, undef, undef, undef, undef, undef, undef, undef, undef, undef, undef, undef, undef, undef, undef, undef, undef, undef, undef, undef, undef, undef, undef, undef, undef, undef, undef, undef, undef, undef, undef, undef, undef, undef, undef, undef, undef, undef, undef, undef, undef, undef, undef, undef, undef, undef, undef, undef, undef, undef, undef, undef], []⟩ wr := by
  have HCK := Lib.hid hck
  have HQ := Lib.hid hq
  have T5 := Lib.hid t5
  clear hck hq t5
  show Code.wp Try.prog (Code.region 25 _ true) _ _ _
  have KD := (Below.refl wr.heap.size wr).drew
  have TD : wr.drew.cell? ⟨g5, 0, none⟩ = some (.int .i64 k) ∧ wr.drew.cell? ⟨g7, 0, none⟩ = some (.string ⟨ra.toArray⟩) ∧ wr.drew.cell? ⟨g7, 1, none⟩ = some (.string ⟨rb.toArray⟩) := ⟨cellKeep KD (cellKeep HQ.out.1 T5.out.1), cellKeep KD HQ.out.tab.1, cellKeep KD HQ.out.tab.2⟩
  have RL0 : Rd wr.drew 2 A8 n8 (ruls ks) := (HQ.out.below KD).2.2.2.1.own.rd
  have LT5 := Lib.hid (show g5 < wr.heap.size from World.block_lt_of_cell? wr ⟨g5, 0, none⟩ (cellKeep HQ.out.1 T5.out.1))
  have LT7 := Lib.hid HQ.out.lt7
  refine wp_region_U (fun w' => w'.cell? ⟨g5, 0, none⟩ = some (.int .i64 k) ∧ w'.cell? ⟨g7, 0, none⟩ = some (.string ⟨ra.toArray⟩) ∧ w'.cell? ⟨g7, 1, none⟩ = some (.string ⟨rb.toArray⟩)) 9 (by kernel_rfl) (TD) (fun hHeld => ?_)
  refine takeU (i := 0) (v := ?v4001) rfl (by kernel_rfl) (fun _ _ _ h => hQ _ _ _ _ _ h) (Or.inl ⟨by rfl, ?hy4001⟩) (by assumption) ?rest4001
  case hy4001 => (intro w hSw; (try dsimp only at hSw); (first | (go_simp; done) | (go_simp; with_reducible rfl)))
  case rest4001 =>
    try simp only [Act.put, List.setIfInBounds_toArray, List.set_cons_zero, List.set_cons_succ]
    refine takeU (i := 1) (v := ?v4002) rfl (by kernel_rfl) (fun _ _ _ h => hQ _ _ _ _ _ h) (Or.inl ⟨by rfl, ?hy4002⟩) (by assumption) ?rest4002
    case hy4002 => (intro w hSw; (try dsimp only at hSw); (first | (go_simp; done) | (go_simp; with_reducible rfl)))
    case rest4002 =>
      try simp only [Act.put, List.setIfInBounds_toArray, List.set_cons_zero, List.set_cons_succ]
      refine takeU (i := 2) (v := ?v4003) rfl (by kernel_rfl) (fun _ _ _ h => hQ _ _ _ _ _ h) (Or.inl ⟨by rfl, ?hy4003⟩) (by assumption) ?rest4003
      case hy4003 => (intro w hSw; (try dsimp only at hSw); (first | (go_simp; done) | (go_simp; with_reducible rfl)))
      case rest4003 =>
        try simp only [Act.put, List.setIfInBounds_toArray, List.set_cons_zero, List.set_cons_succ]
        refine takeU (i := 4) (v := ?v4004) rfl (by kernel_rfl) (fun _ _ _ h => hQ _ _ _ _ _ h) (Or.inl ⟨by rfl, ?hy4004⟩) (by assumption) ?rest4004
        case hy4004 => (intro w hSw; (try dsimp only at hSw); (first | (go_simp; done) | (go_simp; with_reducible rfl)))
        case rest4004 =>
          try simp only [Act.put, List.setIfInBounds_toArray, List.set_cons_zero, List.set_cons_succ]
          refine wpAnyU_ready (rs := [3, 5, 8]) (by kernel_rfl) (by simp) ?_
          refine consU rfl (fun K hK => ?_) ?_
          · go_simp
            go_at_call 101
            refine (HCK.out _ RL0).mono ?_
            rintro e w5 ⟨A5, c5, rfl, hown5, hb5⟩
            have O0 := (OwnS.of_row hown5).mono (base' := wr.heap.size) (by have := KD.size; first | (simp; done) | (simp at this ⊢; omega))
            have K1 := KD.trans (hb5.mono KD.size)
            have T1 : _ ∧ _ ∧ _ := ⟨cellKeep hb5 TD.1, cellKeep hb5 TD.2.1, cellKeep hb5 TD.2.2⟩
            have RL1 := RL0.below hb5
            refine hK.out _ _ (T1) (fun hHeld => ?_)
            clear hK K
            try simp only [Act.put, List.setIfInBounds_toArray, List.set_cons_zero, List.set_cons_succ]
            refine wpAnyU_ready (rs := [5, 8]) (by kernel_rfl) (by simp) ?_
            refine consU rfl (fun K hK => ?_) ?_
            · go_simp
              have K2 := K1.trans ((ref_al _ (.cells #[.string ⟨ra.toArray⟩, .string ⟨rb.toArray⟩] 84)).mono K1.size)
              have T2 : _ ∧ _ ∧ _ := ⟨cellKeep (ref_al _ (.cells #[.string ⟨ra.toArray⟩, .string ⟨rb.toArray⟩] 84)) T1.1, cellKeep (ref_al _ (.cells #[.string ⟨ra.toArray⟩, .string ⟨rb.toArray⟩] 84)) T1.2.1, cellKeep (ref_al _ (.cells #[.string ⟨ra.toArray⟩, .string ⟨rb.toArray⟩] 84)) T1.2.2⟩
              have RL2 := RL1.below (ref_al _ (.cells #[.string ⟨ra.toArray⟩, .string ⟨rb.toArray⟩] 84))
              have O2 := O0.below (ref_al _ (.cells #[.string ⟨ra.toArray⟩, .string ⟨rb.toArray⟩] 84))
              have RX2 : Rd ((w5.alloc (.cells #[.string ⟨ra.toArray⟩, .string ⟨rb.toArray⟩] 84))) 2 (some ⟨w5.heap.size, 0, none⟩) 1 (ruleCells ⟨ra, rb⟩) := rd_lit _ ⟨ra, rb⟩ _
              refine hK.out _ _ (T2) (fun hHeld => ?_)
              clear hK K
              try simp only [Act.put, List.setIfInBounds_toArray, List.set_cons_zero, List.set_cons_succ]
              refine wpAnyU_ready (rs := [6, 8]) (by kernel_rfl) (by simp) ?_
              refine consU rfl (fun K hK => ?_) ?_
              · refine step_push_off rfl (.tmp 122) (.tmp 124) rfl slRule rfl O2 rfl RX2 (ruleCells_one ⟨ra, rb⟩) (by have := K2.size; simpa using this) (by omega) ?_
                intro A9 c9 w8 hown8 hg8 hat8
                have b8 := (Below.refl wr.heap.size _).grown hg8 (by have := K2.size; simpa using this) (fun _ hk => (O2.lt _ hk).1)
                have K3 := K2.trans b8
                have T3 : _ ∧ _ ∧ _ := ⟨cellBelow b8 LT5.out T2.1, cellBelow b8 LT7.out T2.2.1, cellBelow b8 LT7.out T2.2.2⟩
                refine hK.out _ _ (T3) (fun hHeld => ?_)
                clear hK K
                try simp only [Act.put, List.setIfInBounds_toArray, List.set_cons_zero, List.set_cons_succ]
                refine takeU (i := 7) (v := ?v4005) rfl (by kernel_rfl) (fun _ _ _ h => hQ _ _ _ _ _ h) (Or.inl ⟨by rfl, ?hy4005⟩) (by assumption) ?rest4005
                case hy4005 => (intro w hSw; (try dsimp only at hSw); (first | (go_simp; done) | (go_simp; with_reducible rfl)))
                case rest4005 =>
                  try simp only [Act.put, List.setIfInBounds_toArray, List.set_cons_zero, List.set_cons_succ]
                  refine wpAnyU_ready (rs := [8]) (by kernel_rfl) (by simp) ?_
                  refine consU rfl (fun K hK => ?_) ?_
                  · go_simp
                    have K4 := K3.trans ((ref_al _ (.cells #[.int .i64 0, .slice none 0 0] 28)).mono K3.size)
                    have T4 : _ ∧ _ ∧ _ := ⟨cellKeep (ref_al _ (.cells #[.int .i64 0, .slice none 0 0] 28)) T3.1, cellKeep (ref_al _ (.cells #[.int .i64 0, .slice none 0 0] 28)) T3.2.1, cellKeep (ref_al _ (.cells #[.int .i64 0, .slice none 0 0] 28)) T3.2.2⟩
                    have O4 := hown8.below (ref_al _ (.cells #[.int .i64 0, .slice none 0 0] 28))
                    have NG : wr.heap.size ≤ w8.heap.size := by have := K3.size; first | omega | (simp at this ⊢; omega)
                    have G4 : ((w8.alloc (.cells #[.int .i64 0, .slice none 0 0] 28))).heap[w8.heap.size]? = some (.cells #[.int .i64 0, .slice none 0 0] 28 (0, 0)) := heap_alloc_new _ _
                    refine hK.out _ _ (T4) (fun hHeld => ?_)
                    clear hK K
                    try simp only [Act.put, List.setIfInBounds_toArray, List.set_cons_zero, List.set_cons_succ]
                    refine wpAnyU_ready (rs := [9]) (by kernel_rfl) (by simp) ?_
                    refine lastU rfl (fun K hK => ?_)
                    have y0 : ((w8.alloc (.cells #[.int .i64 0, .slice none 0 0] 28))).cell? ⟨w8.heap.size, 0, none⟩ = some (.int .i64 0) := (cell_of_row _ _ 0 _ _ _ G4).trans rfl
                    have y1 : ((w8.alloc (.cells #[.int .i64 0, .slice none 0 0] 28))).cell? ⟨w8.heap.size, 1, none⟩ = some (.slice none 0 0) := (cell_of_row _ _ 1 _ _ _ G4).trans rfl
                    have z0 : ((w8.alloc (.cells #[.int .i64 0, .slice none 0 0] 28))).frozen? ⟨w8.heap.size, 0, none⟩ = false := frozen_of_row _ _ 0 _ _ G4
                    have z1 : ((w8.alloc (.cells #[.int .i64 0, .slice none 0 0] 28))).frozen? ⟨w8.heap.size, 1, none⟩ = false := frozen_of_row _ _ 1 _ _ G4
                    go_simp
                    refine hK.out _ _ ?_
                    clear hK K
                    try simp only [Act.put, List.setIfInBounds_toArray, List.set_cons_zero, List.set_cons_succ]
                    refine wpAnyU_done (by kernel_rfl) ?_ _
                    exact cont3 _ _ A9 c9 _ _ _ _ _ _ _ _ _ _ _ _ _ _ _ _ _ _ _ _ _ _ _ _ _ _ _ _ _ _ _ _ _ _ _ _ _ _ _ _ _ _ _ _ _ _ _ _ _ _ _ _ _ _ _ _ _ _ _ _ _ _ _ _ _ _ _ _ _ _ _ _ _ _ _ _ _ _ _ _ _ _ _ _ _ _ _ _ _ _ _ _ _ _ _ _ _ _ _ _ _ _ _ _ _ _ _ _ _ _ _ _ _ _ _ _ _ _ (K3.alloc NG _) (by simp [go_sem]) (by simp [go_sem]) (by rw [ruls_snoc]; exact (hown8.below (ref_al _ _)).own.rd)
                  exact AllU.nil
              refine consU rfl (fun K hK => ?_) ?_
              · go_simp
                have K3 := K2.trans ((ref_al _ (.cells #[.int .i64 0, .slice none 0 0] 28)).mono K2.size)
                have T3 : _ ∧ _ ∧ _ := ⟨cellKeep (ref_al _ (.cells #[.int .i64 0, .slice none 0 0] 28)) T2.1, cellKeep (ref_al _ (.cells #[.int .i64 0, .slice none 0 0] 28)) T2.2.1, cellKeep (ref_al _ (.cells #[.int .i64 0, .slice none 0 0] 28)) T2.2.2⟩
                have RL3 := RL2.below (ref_al _ (.cells #[.int .i64 0, .slice none 0 0] 28))
                have O3 := O2.below (ref_al _ (.cells #[.int .i64 0, .slice none 0 0] 28))
                have RX3 := RX2.below (ref_al _ (.cells #[.int .i64 0, .slice none 0 0] 28))
                have NG : wr.heap.size ≤ w5.heap.size + 1 := by have := K2.size; first | omega | (simp at this ⊢; omega)
                have G3 : (((w5.alloc (.cells #[.string ⟨ra.toArray⟩, .string ⟨rb.toArray⟩] 84)).alloc (.cells #[.int .i64 0, .slice none 0 0] 28))).heap[w5.heap.size + 1]? = some (.cells #[.int .i64 0, .slice none 0 0] 28 (0, 0)) := by rw [show w5.heap.size + 1 = ((w5.alloc (.cells #[.string ⟨ra.toArray⟩, .string ⟨rb.toArray⟩] 84))).heap.size by simp]; exact heap_alloc_new _ _
                refine hK.out _ _ (T3) (fun hHeld => ?_)
                clear hK K
                try simp only [Act.put, List.setIfInBounds_toArray, List.set_cons_zero, List.set_cons_succ]
                refine wpAnyU_ready (rs := [6]) (by kernel_rfl) (by simp) ?_
                refine consU rfl (fun K hK => ?_) ?_
                · refine step_push_off rfl (.tmp 122) (.tmp 124) rfl slRule rfl O3 rfl RX3 (ruleCells_one ⟨ra, rb⟩) (by have := K3.size; simpa using this) (by omega) ?_
                  intro A9 c9 w8 hown8 hg8 hat8
                  have b8 := (Below.refl wr.heap.size _).grown hg8 (by have := K3.size; simpa using this) (fun _ hk => (O3.lt _ hk).1)
                  have K4 := K3.trans b8
                  have G4 := (hg8.block _ (Array.getElem?_eq_some_iff.1 G3).1 (fun e => by obtain ⟨cu, hcu⟩ := O3.type e.symm; rw [G3] at hcu; simp at hcu)).trans G3
                  have T4 : _ ∧ _ ∧ _ := ⟨cellBelow b8 LT5.out T3.1, cellBelow b8 LT7.out T3.2.1, cellBelow b8 LT7.out T3.2.2⟩
                  refine hK.out _ _ (T4) (fun hHeld => ?_)
                  clear hK K
                  try simp only [Act.put, List.setIfInBounds_toArray, List.set_cons_zero, List.set_cons_succ]
                  refine takeU (i := 7) (v := ?v4006) rfl (by kernel_rfl) (fun _ _ _ h => hQ _ _ _ _ _ h) (Or.inl ⟨by rfl, ?hy4006⟩) (by assumption) ?rest4006
                  case hy4006 => (intro w hSw; (try dsimp only at hSw); (first | (go_simp; done) | (go_simp; with_reducible rfl)))
                  case rest4006 =>
                    try simp only [Act.put, List.setIfInBounds_toArray, List.set_cons_zero, List.set_cons_succ]
                    refine wpAnyU_ready (rs := [9]) (by kernel_rfl) (by simp) ?_
                    refine lastU rfl (fun K hK => ?_)
                    have y0 : (w8).cell? ⟨w5.heap.size + 1, 0, none⟩ = some (.int .i64 0) := (cell_of_row _ _ 0 _ _ _ G4).trans rfl
                    have y1 : (w8).cell? ⟨w5.heap.size + 1, 1, none⟩ = some (.slice none 0 0) := (cell_of_row _ _ 1 _ _ _ G4).trans rfl
                    have z0 : (w8).frozen? ⟨w5.heap.size + 1, 0, none⟩ = false := frozen_of_row _ _ 0 _ _ G4
                    have z1 : (w8).frozen? ⟨w5.heap.size + 1, 1, none⟩ = false := frozen_of_row _ _ 1 _ _ G4
                    go_simp
                    refine hK.out _ _ ?_
                    clear hK K
                    try simp only [Act.put, List.setIfInBounds_toArray, List.set_cons_zero, List.set_cons_succ]
                    refine wpAnyU_done (by kernel_rfl) ?_ _
                    exact cont3 _ _ A9 c9 _ _ _ _ _ _ _ _ _ _ _ _ _ _ _ _ _ _ _ _ _ _ _ _ _ _ _ _ _ _ _ _ _ _ _ _ _ _ _ _ _ _ _ _ _ _ _ _ _ _ _ _ _ _ _ _ _ _ _ _ _ _ _ _ _ _ _ _ _ _ _ _ _ _ _ _ _ _ _ _ _ _ _ _ _ _ _ _ _ _ _ _ _ _ _ _ _ _ _ _ _ _ _ _ _ _ _ _ _ _ _ _ _ _ _ _ _ _ ((K4.setCell NG _).setCell NG _) ((cell_set_ne _ (Or.inr (by decide))).trans (cell_set_eq _ y0)) (cell_two' y1 _ _) (by rw [ruls_snoc]; exact ((hown8.setApart G4 (by decide) _ _).setApart (heap_setCell_same _ _ 0 _ _ _ G4) (by decide) _ _).own.rd)
                exact AllU.nil
              exact AllU.nil
            refine consU rfl (fun K hK => ?_) ?_
            · go_simp
              have K2 := K1.trans ((ref_al _ (.cells #[.int .i64 0, .slice none 0 0] 28)).mono K1.size)
              have T2 : _ ∧ _ ∧ _ := ⟨cellKeep (ref_al _ (.cells #[.int .i64 0, .slice none 0 0] 28)) T1.1, cellKeep (ref_al _ (.cells #[.int .i64 0, .slice none 0 0] 28)) T1.2.1, cellKeep (ref_al _ (.cells #[.int .i64 0, .slice none 0 0] 28)) T1.2.2⟩
              have RL2 := RL1.below (ref_al _ (.cells #[.int .i64 0, .slice none 0 0] 28))
              have O2 := O0.below (ref_al _ (.cells #[.int .i64 0, .slice none 0 0] 28))
              have NG : wr.heap.size ≤ w5.heap.size := by have := K1.size; first | omega | (simp at this ⊢; omega)
              have G2 : ((w5.alloc (.cells #[.int .i64 0, .slice none 0 0] 28))).heap[w5.heap.size]? = some (.cells #[.int .i64 0, .slice none 0 0] 28 (0, 0)) := heap_alloc_new _ _
              refine hK.out _ _ (T2) (fun hHeld => ?_)
              clear hK K
              try simp only [Act.put, List.setIfInBounds_toArray, List.set_cons_zero, List.set_cons_succ]
              refine wpAnyU_ready (rs := [5]) (by kernel_rfl) (by simp) ?_
              refine consU rfl (fun K hK => ?_) ?_
              · go_simp
                have K3 := K2.trans ((ref_al _ (.cells #[.string ⟨ra.toArray⟩, .string ⟨rb.toArray⟩] 84)).mono K2.size)
                have T3 : _ ∧ _ ∧ _ := ⟨cellKeep (ref_al _ (.cells #[.string ⟨ra.toArray⟩, .string ⟨rb.toArray⟩] 84)) T2.1, cellKeep (ref_al _ (.cells #[.string ⟨ra.toArray⟩, .string ⟨rb.toArray⟩] 84)) T2.2.1, cellKeep (ref_al _ (.cells #[.string ⟨ra.toArray⟩, .string ⟨rb.toArray⟩] 84)) T2.2.2⟩
                have RL3 := RL2.below (ref_al _ (.cells #[.string ⟨ra.toArray⟩, .string ⟨rb.toArray⟩] 84))
                have O3 := O2.below (ref_al _ (.cells #[.string ⟨ra.toArray⟩, .string ⟨rb.toArray⟩] 84))
                have G3 := ((ref_al _ (.cells #[.string ⟨ra.toArray⟩, .string ⟨rb.toArray⟩] 84)).block _ (Array.getElem?_eq_some_iff.1 G2).1).trans G2
                have RX3 : Rd (((w5.alloc (.cells #[.int .i64 0, .slice none 0 0] 28)).alloc (.cells #[.string ⟨ra.toArray⟩, .string ⟨rb.toArray⟩] 84))) 2 (some ⟨w5.heap.size + 1, 0, none⟩) 1 (ruleCells ⟨ra, rb⟩) := by rw [show w5.heap.size + 1 = ((w5.alloc (.cells #[.int .i64 0, .slice none 0 0] 28))).heap.size by simp]; exact rd_lit _ ⟨ra, rb⟩ _
                refine hK.out _ _ (T3) (fun hHeld => ?_)
                clear hK K
                try simp only [Act.put, List.setIfInBounds_toArray, List.set_cons_zero, List.set_cons_succ]
                refine wpAnyU_ready (rs := [6]) (by kernel_rfl) (by simp) ?_
                refine consU rfl (fun K hK => ?_) ?_
                · refine step_push_off rfl (.tmp 122) (.tmp 124) rfl slRule rfl O3 rfl RX3 (ruleCells_one ⟨ra, rb⟩) (by have := K3.size; simpa using this) (by omega) ?_
                  intro A9 c9 w8 hown8 hg8 hat8
                  have b8 := (Below.refl wr.heap.size _).grown hg8 (by have := K3.size; simpa using this) (fun _ hk => (O3.lt _ hk).1)
                  have K4 := K3.trans b8
                  have G4 := (hg8.block _ (Array.getElem?_eq_some_iff.1 G3).1 (fun e => by obtain ⟨cu, hcu⟩ := O3.type e.symm; rw [G3] at hcu; simp at hcu)).trans G3
                  have T4 : _ ∧ _ ∧ _ := ⟨cellBelow b8 LT5.out T3.1, cellBelow b8 LT7.out T3.2.1, cellBelow b8 LT7.out T3.2.2⟩
                  refine hK.out _ _ (T4) (fun hHeld => ?_)
                  clear hK K
                  try simp only [Act.put, List.setIfInBounds_toArray, List.set_cons_zero, List.set_cons_succ]
                  refine takeU (i := 7) (v := ?v4007) rfl (by kernel_rfl) (fun _ _ _ h => hQ _ _ _ _ _ h) (Or.inl ⟨by rfl, ?hy4007⟩) (by assumption) ?rest4007
                  case hy4007 => (intro w hSw; (try dsimp only at hSw); (first | (go_simp; done) | (go_simp; with_reducible rfl)))
                  case rest4007 =>
                    try simp only [Act.put, List.setIfInBounds_toArray, List.set_cons_zero, List.set_cons_succ]
                    refine wpAnyU_ready (rs := [9]) (by kernel_rfl) (by simp) ?_
                    refine lastU rfl (fun K hK => ?_)
                    have y0 : (w8).cell? ⟨w5.heap.size, 0, none⟩ = some (.int .i64 0) := (cell_of_row _ _ 0 _ _ _ G4).trans rfl
                    have y1 : (w8).cell? ⟨w5.heap.size, 1, none⟩ = some (.slice none 0 0) := (cell_of_row _ _ 1 _ _ _ G4).trans rfl
                    have z0 : (w8).frozen? ⟨w5.heap.size, 0, none⟩ = false := frozen_of_row _ _ 0 _ _ G4
                    have z1 : (w8).frozen? ⟨w5.heap.size, 1, none⟩ = false := frozen_of_row _ _ 1 _ _ G4
                    go_simp
                    refine hK.out _ _ ?_
                    clear hK K
                    try simp only [Act.put, List.setIfInBounds_toArray, List.set_cons_zero, List.set_cons_succ]
                    refine wpAnyU_done (by kernel_rfl) ?_ _
                    exact cont3 _ _ A9 c9 _ _ _ _ _ _ _ _ _ _ _ _ _ _ _ _ _ _ _ _ _ _ _ _ _ _ _ _ _ _ _ _ _ _ _ _ _ _ _ _ _ _ _ _ _ _ _ _ _ _ _ _ _ _ _ _ _ _ _ _ _ _ _ _ _ _ _ _ _ _ _ _ _ _ _ _ _ _ _ _ _ _ _ _ _ _ _ _ _ _ _ _ _ _ _ _ _ _ _ _ _ _ _ _ _ _ _ _ _ _ _ _ _ _ _ _ _ _ ((K4.setCell NG _).setCell NG _) ((cell_set_ne _ (Or.inr (by decide))).trans (cell_set_eq _ y0)) (cell_two' y1 _ _) (by rw [ruls_snoc]; exact ((hown8.setApart G4 (by decide) _ _).setApart (heap_setCell_same _ _ 0 _ _ _ G4) (by decide) _ _).own.rd)
                exact AllU.nil
              exact AllU.nil
            exact AllU.nil
          refine consU rfl (fun K hK => ?_) ?_
          · go_simp
            have K1 := KD.trans ((ref_al _ (.cells #[.string ⟨ra.toArray⟩, .string ⟨rb.toArray⟩] 84)).mono KD.size)
            have T1 : _ ∧ _ ∧ _ := ⟨cellKeep (ref_al _ (.cells #[.string ⟨ra.toArray⟩, .string ⟨rb.toArray⟩] 84)) TD.1, cellKeep (ref_al _ (.cells #[.string ⟨ra.toArray⟩, .string ⟨rb.toArray⟩] 84)) TD.2.1, cellKeep (ref_al _ (.cells #[.string ⟨ra.toArray⟩, .string ⟨rb.toArray⟩] 84)) TD.2.2⟩
            have RL1 := RL0.below (ref_al _ (.cells #[.string ⟨ra.toArray⟩, .string ⟨rb.toArray⟩] 84))
            have RX1 : Rd ((wr.drew.alloc (.cells #[.string ⟨ra.toArray⟩, .string ⟨rb.toArray⟩] 84))) 2 (some ⟨wr.heap.size, 0, none⟩) 1 (ruleCells ⟨ra, rb⟩) := rd_lit _ ⟨ra, rb⟩ _
            refine hK.out _ _ (T1) (fun hHeld => ?_)
            clear hK K
            try simp only [Act.put, List.setIfInBounds_toArray, List.set_cons_zero, List.set_cons_succ]
            refine wpAnyU_ready (rs := [3, 8]) (by kernel_rfl) (by simp) ?_
            refine consU rfl (fun K hK => ?_) ?_
            · go_simp
              go_at_call 101
              refine (HCK.out _ RL1).mono ?_
              rintro e w5 ⟨A5, c5, rfl, hown5, hb5⟩
              have O0 := (OwnS.of_row hown5).mono (base' := wr.heap.size) (by have := K1.size; first | (simp; done) | (simp at this ⊢; omega))
              have K2 := K1.trans (hb5.mono K1.size)
              have T2 : _ ∧ _ ∧ _ := ⟨cellKeep hb5 T1.1, cellKeep hb5 T1.2.1, cellKeep hb5 T1.2.2⟩
              have RL2 := RL1.below hb5
              have RX2 := RX1.below hb5
              refine hK.out _ _ (T2) (fun hHeld => ?_)
              clear hK K
              try simp only [Act.put, List.setIfInBounds_toArray, List.set_cons_zero, List.set_cons_succ]
              refine wpAnyU_ready (rs := [6, 8]) (by kernel_rfl) (by simp) ?_
              refine consU rfl (fun K hK => ?_) ?_
              · refine step_push_off rfl (.tmp 122) (.tmp 124) rfl slRule rfl O0 rfl RX2 (ruleCells_one ⟨ra, rb⟩) (by have := K2.size; simpa using this) (by omega) ?_
                intro A9 c9 w8 hown8 hg8 hat8
                have b8 := (Below.refl wr.heap.size _).grown hg8 (by have := K2.size; simpa using this) (fun _ hk => (O0.lt _ hk).1)
                have K3 := K2.trans b8
                have T3 : _ ∧ _ ∧ _ := ⟨cellBelow b8 LT5.out T2.1, cellBelow b8 LT7.out T2.2.1, cellBelow b8 LT7.out T2.2.2⟩
                refine hK.out _ _ (T3) (fun hHeld => ?_)
                clear hK K
                try simp only [Act.put, List.setIfInBounds_toArray, List.set_cons_zero, List.set_cons_succ]
                refine takeU (i := 7) (v := ?v4008) rfl (by kernel_rfl) (fun _ _ _ h => hQ _ _ _ _ _ h) (Or.inl ⟨by rfl, ?hy4008⟩) (by assumption) ?rest4008
                case hy4008 => (intro w hSw; (try dsimp only at hSw); (first | (go_simp; done) | (go_simp; with_reducible rfl)))
                case rest4008 =>
                  try simp only [Act.put, List.setIfInBounds_toArray, List.set_cons_zero, List.set_cons_succ]
                  refine wpAnyU_ready (rs := [8]) (by kernel_rfl) (by simp) ?_
                  refine consU rfl (fun K hK => ?_) ?_
                  · go_simp
                    have K4 := K3.trans ((ref_al _ (.cells #[.int .i64 0, .slice none 0 0] 28)).mono K3.size)
                    have T4 : _ ∧ _ ∧ _ := ⟨cellKeep (ref_al _ (.cells #[.int .i64 0, .slice none 0 0] 28)) T3.1, cellKeep (ref_al _ (.cells #[.int .i64 0, .slice none 0 0] 28)) T3.2.1, cellKeep (ref_al _ (.cells #[.int .i64 0, .slice none 0 0] 28)) T3.2.2⟩
                    have O4 := hown8.below (ref_al _ (.cells #[.int .i64 0, .slice none 0 0] 28))
                    have NG : wr.heap.size ≤ w8.heap.size := by have := K3.size; first | omega | (simp at this ⊢; omega)
                    have G4 : ((w8.alloc (.cells #[.int .i64 0, .slice none 0 0] 28))).heap[w8.heap.size]? = some (.cells #[.int .i64 0, .slice none 0 0] 28 (0, 0)) := heap_alloc_new _ _
                    refine hK.out _ _ (T4) (fun hHeld => ?_)
                    clear hK K
                    try simp only [Act.put, List.setIfInBounds_toArray, List.set_cons_zero, List.set_cons_succ]
                    refine wpAnyU_ready (rs := [9]) (by kernel_rfl) (by simp) ?_
                    refine lastU rfl (fun K hK => ?_)
                    have y0 : ((w8.alloc (.cells #[.int .i64 0, .slice none 0 0] 28))).cell? ⟨w8.heap.size, 0, none⟩ = some (.int .i64 0) := (cell_of_row _ _ 0 _ _ _ G4).trans rfl
                    have y1 : ((w8.alloc (.cells #[.int .i64 0, .slice none 0 0] 28))).cell? ⟨w8.heap.size, 1, none⟩ = some (.slice none 0 0) := (cell_of_row _ _ 1 _ _ _ G4).trans rfl
                    have z0 : ((w8.alloc (.cells #[.int .i64 0, .slice none 0 0] 28))).frozen? ⟨w8.heap.size, 0, none⟩ = false := frozen_of_row _ _ 0 _ _ G4
                    have z1 : ((w8.alloc (.cells #[.int .i64 0, .slice none 0 0] 28))).frozen? ⟨w8.heap.size, 1, none⟩ = false := frozen_of_row _ _ 1 _ _ G4
                    go_simp
                    refine hK.out _ _ ?_
                    clear hK K
                    try simp only [Act.put, List.setIfInBounds_toArray, List.set_cons_zero, List.set_cons_succ]
                    refine wpAnyU_done (by kernel_rfl) ?_ _
                    exact cont3 _ _ A9 c9 _ _ _ _ _ _ _ _ _ _ _ _ _ _ _ _ _ _ _ _ _ _ _ _ _ _ _ _ _ _ _ _ _ _ _ _ _ _ _ _ _ _ _ _ _ _ _ _ _ _ _ _ _ _ _ _ _ _ _ _ _ _ _ _ _ _ _ _ _ _ _ _ _ _ _ _ _ _ _ _ _ _ _ _ _ _ _ _ _ _ _ _ _ _ _ _ _ _ _ _ _ _ _ _ _ _ _ _ _ _ _ _ _ _ _ _ _ _ (K3.alloc NG _) (by simp [go_sem]) (by simp [go_sem]) (by rw [ruls_snoc]; exact (hown8.below (ref_al _ _)).own.rd)
                  exact AllU.nil
              refine consU rfl (fun K hK => ?_) ?_
              · go_simp
                have K3 := K2.trans ((ref_al _ (.cells #[.int .i64 0, .slice none 0 0] 28)).mono K2.size)
                have T3 : _ ∧ _ ∧ _ := ⟨cellKeep (ref_al _ (.cells #[.int .i64 0, .slice none 0 0] 28)) T2.1, cellKeep (ref_al _ (.cells #[.int .i64 0, .slice none 0 0] 28)) T2.2.1, cellKeep (ref_al _ (.cells #[.int .i64 0, .slice none 0 0] 28)) T2.2.2⟩
                have RL3 := RL2.below (ref_al _ (.cells #[.int .i64 0, .slice none 0 0] 28))
                have O3 := O0.below (ref_al _ (.cells #[.int .i64 0, .slice none 0 0] 28))
                have RX3 := RX2.below (ref_al _ (.cells #[.int .i64 0, .slice none 0 0] 28))
                have NG : wr.heap.size ≤ w5.heap.size := by have := K2.size; first | omega | (simp at this ⊢; omega)
                have G3 : ((w5.alloc (.cells #[.int .i64 0, .slice none 0 0] 28))).heap[w5.heap.size]? = some (.cells #[.int .i64 0, .slice none 0 0] 28 (0, 0)) := heap_alloc_new _ _
                refine hK.out _ _ (T3) (fun hHeld => ?_)
                clear hK K
                try simp only [Act.put, List.setIfInBounds_toArray, List.set_cons_zero, List.set_cons_succ]
                refine wpAnyU_ready (rs := [6]) (by kernel_rfl) (by simp) ?_
                refine consU rfl (fun K hK => ?_) ?_
                · refine step_push_off rfl (.tmp 122) (.tmp 124) rfl slRule rfl O3 rfl RX3 (ruleCells_one ⟨ra, rb⟩) (by have := K3.size; simpa using this) (by omega) ?_
                  intro A9 c9 w8 hown8 hg8 hat8
                  have b8 := (Below.refl wr.heap.size _).grown hg8 (by have := K3.size; simpa using this) (fun _ hk => (O3.lt _ hk).1)
                  have K4 := K3.trans b8
                  have G4 := (hg8.block _ (Array.getElem?_eq_some_iff.1 G3).1 (fun e => by obtain ⟨cu, hcu⟩ := O3.type e.symm; rw [G3] at hcu; simp at hcu)).trans G3
                  have T4 : _ ∧ _ ∧ _ := ⟨cellBelow b8 LT5.out T3.1, cellBelow b8 LT7.out T3.2.1, cellBelow b8 LT7.out T3.2.2⟩
                  refine hK.out _ _ (T4) (fun hHeld => ?_)
                  clear hK K
                  try simp only [Act.put, List.setIfInBounds_toArray, List.set_cons_zero, List.set_cons_succ]
                  refine takeU (i := 7) (v := ?v4009) rfl (by kernel_rfl) (fun _ _ _ h => hQ _ _ _ _ _ h) (Or.inl ⟨by rfl, ?hy4009⟩) (by assumption) ?rest4009
                  case hy4009 => (intro w hSw; (try dsimp only at hSw); (first | (go_simp; done) | (go_simp; with_reducible rfl)))
                  case rest4009 =>
                    try simp only [Act.put, List.setIfInBounds_toArray, List.set_cons_zero, List.set_cons_succ]
                    refine wpAnyU_ready (rs := [9]) (by kernel_rfl) (by simp) ?_
                    refine lastU rfl (fun K hK => ?_)
                    have y0 : (w8).cell? ⟨w5.heap.size, 0, none⟩ = some (.int .i64 0) := (cell_of_row _ _ 0 _ _ _ G4).trans rfl
                    have y1 : (w8).cell? ⟨w5.heap.size, 1, none⟩ = some (.slice none 0 0) := (cell_of_row _ _ 1 _ _ _ G4).trans rfl
                    have z0 : (w8).frozen? ⟨w5.heap.size, 0, none⟩ = false := frozen_of_row _ _ 0 _ _ G4
                    have z1 : (w8).frozen? ⟨w5.heap.size, 1, none⟩ = false := frozen_of_row _ _ 1 _ _ G4
                    go_simp
                    refine hK.out _ _ ?_
                    clear hK K
                    try simp only [Act.put, List.setIfInBounds_toArray, List.set_cons_zero, List.set_cons_succ]
                    refine wpAnyU_done (by kernel_rfl) ?_ _
                    exact cont3 _ _ A9 c9 _ _ _ _ _ _ _ _ _ _ _ _ _ _ _ _ _ _ _ _ _ _ _ _ _ _ _ _ _ _ _ _ _ _ _ _ _ _ _ _ _ _ _ _ _ _ _ _ _ _ _ _ _ _ _ _ _ _ _ _ _ _ _ _ _ _ _ _ _ _ _ _ _ _ _ _ _ _ _ _ _ _ _ _ _ _ _ _ _ _ _ _ _ _ _ _ _ _ _ _ _ _ _ _ _ _ _ _ _ _ _ _ _ _ _ _ _ _ ((K4.setCell NG _).setCell NG _) ((cell_set_ne _ (Or.inr (by decide))).trans (cell_set_eq _ y0)) (cell_two' y1 _ _) (by rw [ruls_snoc]; exact ((hown8.setApart G4 (by decide) _ _).setApart (heap_setCell_same _ _ 0 _ _ _ G4) (by decide) _ _).own.rd)
                exact AllU.nil
              exact AllU.nil
            refine consU rfl (fun K hK => ?_) ?_
            · go_simp
              have K2 := K1.trans ((ref_al _ (.cells #[.int .i64 0, .slice none 0 0] 28)).mono K1.size)
              have T2 : _ ∧ _ ∧ _ := ⟨cellKeep (ref_al _ (.cells #[.int .i64 0, .slice none 0 0] 28)) T1.1, cellKeep (ref_al _ (.cells #[.int .i64 0, .slice none 0 0] 28)) T1.2.1, cellKeep (ref_al _ (.cells #[.int .i64 0, .slice none 0 0] 28)) T1.2.2⟩
              have RL2 := RL1.below (ref_al _ (.cells #[.int .i64 0, .slice none 0 0] 28))
              have RX2 := RX1.below (ref_al _ (.cells #[.int .i64 0, .slice none 0 0] 28))
              have NG : wr.heap.size ≤ wr.heap.size + 1 := by have := K1.size; first | omega | (simp at this ⊢; omega)
              have G2 : (((wr.drew.alloc (.cells #[.string ⟨ra.toArray⟩, .string ⟨rb.toArray⟩] 84)).alloc (.cells #[.int .i64 0, .slice none 0 0] 28))).heap[wr.heap.size + 1]? = some (.cells #[.int .i64 0, .slice none 0 0] 28 (0, 0)) := by rw [show wr.heap.size + 1 = ((wr.drew.alloc (.cells #[.string ⟨ra.toArray⟩, .string ⟨rb.toArray⟩] 84))).heap.size by simp]; exact heap_alloc_new _ _
              refine hK.out _ _ (T2) (fun hHeld => ?_)
              clear hK K
              try simp only [Act.put, List.setIfInBounds_toArray, List.set_cons_zero, List.set_cons_succ]
              refine wpAnyU_ready (rs := [3]) (by kernel_rfl) (by simp) ?_
              refine consU rfl (fun K hK => ?_) ?_
              · go_simp
                go_at_call 101
                refine (HCK.out _ RL2).mono ?_
                rintro e w5 ⟨A5, c5, rfl, hown5, hb5⟩
                have O0 := (OwnS.of_row hown5).mono (base' := wr.heap.size) (by have := K2.size; first | (simp; done) | (simp at this ⊢; omega))
                have K3 := K2.trans (hb5.mono K2.size)
                have T3 : _ ∧ _ ∧ _ := ⟨cellKeep hb5 T2.1, cellKeep hb5 T2.2.1, cellKeep hb5 T2.2.2⟩
                have RL3 := RL2.below hb5
                have RX3 := RX2.below hb5
                have G3 := (hb5.block _ (Array.getElem?_eq_some_iff.1 G2).1).trans G2
                refine hK.out _ _ (T3) (fun hHeld => ?_)
                clear hK K
                try simp only [Act.put, List.setIfInBounds_toArray, List.set_cons_zero, List.set_cons_succ]
                refine wpAnyU_ready (rs := [6]) (by kernel_rfl) (by simp) ?_
                refine consU rfl (fun K hK => ?_) ?_
                · refine step_push_off rfl (.tmp 122) (.tmp 124) rfl slRule rfl O0 rfl RX3 (ruleCells_one ⟨ra, rb⟩) (by have := K3.size; simpa using this) (by omega) ?_
                  intro A9 c9 w8 hown8 hg8 hat8
                  have b8 := (Below.refl wr.heap.size _).grown hg8 (by have := K3.size; simpa using this) (fun _ hk => (O0.lt _ hk).1)
                  have K4 := K3.trans b8
                  have G4 := (hg8.block _ (Array.getElem?_eq_some_iff.1 G3).1 (fun e => by obtain ⟨cu, hcu⟩ := O0.type e.symm; rw [G3] at hcu; simp at hcu)).trans G3
                  have T4 : _ ∧ _ ∧ _ := ⟨cellBelow b8 LT5.out T3.1, cellBelow b8 LT7.out T3.2.1, cellBelow b8 LT7.out T3.2.2⟩
                  refine hK.out _ _ (T4) (fun hHeld => ?_)
                  clear hK K
                  try simp only [Act.put, List.setIfInBounds_toArray, List.set_cons_zero, List.set_cons_succ]
                  refine takeU (i := 7) (v := ?v4010) rfl (by kernel_rfl) (fun _ _ _ h => hQ _ _ _ _ _ h) (Or.inl ⟨by rfl, ?hy4010⟩) (by assumption) ?rest4010
                  case hy4010 => (intro w hSw; (try dsimp only at hSw); (first | (go_simp; done) | (go_simp; with_reducible rfl)))
                  case rest4010 =>
                    try simp only [Act.put, List.setIfInBounds_toArray, List.set_cons_zero, List.set_cons_succ]
                    refine wpAnyU_ready (rs := [9]) (by kernel_rfl) (by simp) ?_
                    refine lastU rfl (fun K hK => ?_)
                    have y0 : (w8).cell? ⟨wr.heap.size + 1, 0, none⟩ = some (.int .i64 0) := (cell_of_row _ _ 0 _ _ _ G4).trans rfl
                    have y1 : (w8).cell? ⟨wr.heap.size + 1, 1, none⟩ = some (.slice none 0 0) := (cell_of_row _ _ 1 _ _ _ G4).trans rfl
                    have z0 : (w8).frozen? ⟨wr.heap.size + 1, 0, none⟩ = false := frozen_of_row _ _ 0 _ _ G4
                    have z1 : (w8).frozen? ⟨wr.heap.size + 1, 1, none⟩ = false := frozen_of_row _ _ 1 _ _ G4
                    go_simp
                    refine hK.out _ _ ?_
                    clear hK K
                    try simp only [Act.put, List.setIfInBounds_toArray, List.set_cons_zero, List.set_cons_succ]
                    refine wpAnyU_done (by kernel_rfl) ?_ _
                    exact cont3 _ _ A9 c9 _ _ _ _ _ _ _ _ _ _ _ _ _ _ _ _ _ _ _ _ _ _ _ _ _ _ _ _ _ _ _ _ _ _ _ _ _ _ _ _ _ _ _ _ _ _ _ _ _ _ _ _ _ _ _ _ _ _ _ _ _ _ _ _ _ _ _ _ _ _ _ _ _ _ _ _ _ _ _ _ _ _ _ _ _ _ _ _ _ _ _ _ _ _ _ _ _ _ _ _ _ _ _ _ _ _ _ _ _ _ _ _ _ _ _ _ _ _ ((K4.setCell NG _).setCell NG _) ((cell_set_ne _ (Or.inr (by decide))).trans (cell_set_eq _ y0)) (cell_two' y1 _ _) (by rw [ruls_snoc]; exact ((hown8.setApart G4 (by decide) _ _).setApart (heap_setCell_same _ _ 0 _ _ _ G4) (by decide) _ _).own.rd)
                exact AllU.nil
              exact AllU.nil
            exact AllU.nil
          refine consU rfl (fun K hK => ?_) ?_
          · go_simp
            have K1 := KD.trans ((ref_al _ (.cells #[.int .i64 0, .slice none 0 0] 28)).mono KD.size)
            have T1 : _ ∧ _ ∧ _ := ⟨cellKeep (ref_al _ (.cells #[.int .i64 0, .slice none 0 0] 28)) TD.1, cellKeep (ref_al _ (.cells #[.int .i64 0, .slice none 0 0] 28)) TD.2.1, cellKeep (ref_al _ (.cells #[.int .i64 0, .slice none 0 0] 28)) TD.2.2⟩
            have RL1 := RL0.below (ref_al _ (.cells #[.int .i64 0, .slice none 0 0] 28))
            have NG : wr.heap.size ≤ wr.heap.size := by have := KD.size; first | omega | (simp at this ⊢; omega)
            have G1 : ((wr.drew.alloc (.cells #[.int .i64 0, .slice none 0 0] 28))).heap[wr.heap.size]? = some (.cells #[.int .i64 0, .slice none 0 0] 28 (0, 0)) := heap_alloc_new _ _
            refine hK.out _ _ (T1) (fun hHeld => ?_)
            clear hK K
            try simp only [Act.put, List.setIfInBounds_toArray, List.set_cons_zero, List.set_cons_succ]
            refine wpAnyU_ready (rs := [3, 5]) (by kernel_rfl) (by simp) ?_
            refine consU rfl (fun K hK => ?_) ?_
            · go_simp
              go_at_call 101
              refine (HCK.out _ RL1).mono ?_
              rintro e w5 ⟨A5, c5, rfl, hown5, hb5⟩
              have O0 := (OwnS.of_row hown5).mono (base' := wr.heap.size) (by have := K1.size; first | (simp; done) | (simp at this ⊢; omega))
              have K2 := K1.trans (hb5.mono K1.size)
              have T2 : _ ∧ _ ∧ _ := ⟨cellKeep hb5 T1.1, cellKeep hb5 T1.2.1, cellKeep hb5 T1.2.2⟩
              have RL2 := RL1.below hb5
              have G2 := (hb5.block _ (Array.getElem?_eq_some_iff.1 G1).1).trans G1
              refine hK.out _ _ (T2) (fun hHeld => ?_)
              clear hK K
              try simp only [Act.put, List.setIfInBounds_toArray, List.set_cons_zero, List.set_cons_succ]
              refine wpAnyU_ready (rs := [5]) (by kernel_rfl) (by simp) ?_
              refine consU rfl (fun K hK => ?_) ?_
              · go_simp
                have K3 := K2.trans ((ref_al _ (.cells #[.string ⟨ra.toArray⟩, .string ⟨rb.toArray⟩] 84)).mono K2.size)
                have T3 : _ ∧ _ ∧ _ := ⟨cellKeep (ref_al _ (.cells #[.string ⟨ra.toArray⟩, .string ⟨rb.toArray⟩] 84)) T2.1, cellKeep (ref_al _ (.cells #[.string ⟨ra.toArray⟩, .string ⟨rb.toArray⟩] 84)) T2.2.1, cellKeep (ref_al _ (.cells #[.string ⟨ra.toArray⟩, .string ⟨rb.toArray⟩] 84)) T2.2.2⟩
                have RL3 := RL2.below (ref_al _ (.cells #[.string ⟨ra.toArray⟩, .string ⟨rb.toArray⟩] 84))
                have O3 := O0.below (ref_al _ (.cells #[.string ⟨ra.toArray⟩, .string ⟨rb.toArray⟩] 84))
                have G3 := ((ref_al _ (.cells #[.string ⟨ra.toArray⟩, .string ⟨rb.toArray⟩] 84)).block _ (Array.getElem?_eq_some_iff.1 G2).1).trans G2
                have RX3 : Rd ((w5.alloc (.cells #[.string ⟨ra.toArray⟩, .string ⟨rb.toArray⟩] 84))) 2 (some ⟨w5.heap.size, 0, none⟩) 1 (ruleCells ⟨ra, rb⟩) := rd_lit _ ⟨ra, rb⟩ _
                refine hK.out _ _ (T3) (fun hHeld => ?_)
                clear hK K
                try simp only [Act.put, List.setIfInBounds_toArray, List.set_cons_zero, List.set_cons_succ]
                refine wpAnyU_ready (rs := [6]) (by kernel_rfl) (by simp) ?_
                refine consU rfl (fun K hK => ?_) ?_
                · refine step_push_off rfl (.tmp 122) (.tmp 124) rfl slRule rfl O3 rfl RX3 (ruleCells_one ⟨ra, rb⟩) (by have := K3.size; simpa using this) (by omega) ?_
                  intro A9 c9 w8 hown8 hg8 hat8
                  have b8 := (Below.refl wr.heap.size _).grown hg8 (by have := K3.size; simpa using this) (fun _ hk => (O3.lt _ hk).1)
                  have K4 := K3.trans b8
                  have G4 := (hg8.block _ (Array.getElem?_eq_some_iff.1 G3).1 (fun e => by obtain ⟨cu, hcu⟩ := O3.type e.symm; rw [G3] at hcu; simp at hcu)).trans G3
                  have T4 : _ ∧ _ ∧ _ := ⟨cellBelow b8 LT5.out T3.1, cellBelow b8 LT7.out T3.2.1, cellBelow b8 LT7.out T3.2.2⟩
                  refine hK.out _ _ (T4) (fun hHeld => ?_)
                  clear hK K
                  try simp only [Act.put, List.setIfInBounds_toArray, List.set_cons_zero, List.set_cons_succ]
                  refine takeU (i := 7) (v := ?v4011) rfl (by kernel_rfl) (fun _ _ _ h => hQ _ _ _ _ _ h) (Or.inl ⟨by rfl, ?hy4011⟩) (by assumption) ?rest4011
                  case hy4011 => (intro w hSw; (try dsimp only at hSw); (first | (go_simp; done) | (go_simp; with_reducible rfl)))
                  case rest4011 =>
                    try simp only [Act.put, List.setIfInBounds_toArray, List.set_cons_zero, List.set_cons_succ]
                    refine wpAnyU_ready (rs := [9]) (by kernel_rfl) (by simp) ?_
                    refine lastU rfl (fun K hK => ?_)
                    have y0 : (w8).cell? ⟨wr.heap.size, 0, none⟩ = some (.int .i64 0) := (cell_of_row _ _ 0 _ _ _ G4).trans rfl
                    have y1 : (w8).cell? ⟨wr.heap.size, 1, none⟩ = some (.slice none 0 0) := (cell_of_row _ _ 1 _ _ _ G4).trans rfl
                    have z0 : (w8).frozen? ⟨wr.heap.size, 0, none⟩ = false := frozen_of_row _ _ 0 _ _ G4
                    have z1 : (w8).frozen? ⟨wr.heap.size, 1, none⟩ = false := frozen_of_row _ _ 1 _ _ G4
                    go_simp
                    refine hK.out _ _ ?_
                    clear hK K
                    try simp only [Act.put, List.setIfInBounds_toArray, List.set_cons_zero, List.set_cons_succ]
                    refine wpAnyU_done (by kernel_rfl) ?_ _
                    exact cont3 _ _ A9 c9 _ _ _ _ _ _ _ _ _ _ _ _ _ _ _ _ _ _ _ _ _ _ _ _ _ _ _ _ _ _ _ _ _ _ _ _ _ _ _ _ _ _ _ _ _ _ _ _ _ _ _ _ _ _ _ _ _ _ _ _ _ _ _ _ _ _ _ _ _ _ _ _ _ _ _ _ _ _ _ _ _ _ _ _ _ _ _ _ _ _ _ _ _ _ _ _ _ _ _ _ _ _ _ _ _ _ _ _ _ _ _ _ _ _ _ _ _ _ ((K4.setCell NG _).setCell NG _) ((cell_set_ne _ (Or.inr (by decide))).trans (cell_set_eq _ y0)) (cell_two' y1 _ _) (by rw [ruls_snoc]; exact ((hown8.setApart G4 (by decide) _ _).setApart (heap_setCell_same _ _ 0 _ _ _ G4) (by decide) _ _).own.rd)
                exact AllU.nil
              exact AllU.nil
            refine consU rfl (fun K hK => ?_) ?_
            · go_simp
              have K2 := K1.trans ((ref_al _ (.cells #[.string ⟨ra.toArray⟩, .string ⟨rb.toArray⟩] 84)).mono K1.size)
              have T2 : _ ∧ _ ∧ _ := ⟨cellKeep (ref_al _ (.cells #[.string ⟨ra.toArray⟩, .string ⟨rb.toArray⟩] 84)) T1.1, cellKeep (ref_al _ (.cells #[.string ⟨ra.toArray⟩, .string ⟨rb.toArray⟩] 84)) T1.2.1, cellKeep (ref_al _ (.cells #[.string ⟨ra.toArray⟩, .string ⟨rb.toArray⟩] 84)) T1.2.2⟩
              have RL2 := RL1.below (ref_al _ (.cells #[.string ⟨ra.toArray⟩, .string ⟨rb.toArray⟩] 84))
              have G2 := ((ref_al _ (.cells #[.string ⟨ra.toArray⟩, .string ⟨rb.toArray⟩] 84)).block _ (Array.getElem?_eq_some_iff.1 G1).1).trans G1
              have RX2 : Rd (((wr.drew.alloc (.cells #[.int .i64 0, .slice none 0 0] 28)).alloc (.cells #[.string ⟨ra.toArray⟩, .string ⟨rb.toArray⟩] 84))) 2 (some ⟨wr.heap.size + 1, 0, none⟩) 1 (ruleCells ⟨ra, rb⟩) := by rw [show wr.heap.size + 1 = ((wr.drew.alloc (.cells #[.int .i64 0, .slice none 0 0] 28))).heap.size by simp]; exact rd_lit _ ⟨ra, rb⟩ _
              refine hK.out _ _ (T2) (fun hHeld => ?_)
              clear hK K
              try simp only [Act.put, List.setIfInBounds_toArray, List.set_cons_zero, List.set_cons_succ]
              refine wpAnyU_ready (rs := [3]) (by kernel_rfl) (by simp) ?_
              refine consU rfl (fun K hK => ?_) ?_
              · go_simp
                go_at_call 101
                refine (HCK.out _ RL2).mono ?_
                rintro e w5 ⟨A5, c5, rfl, hown5, hb5⟩
                have O0 := (OwnS.of_row hown5).mono (base' := wr.heap.size) (by have := K2.size; first | (simp; done) | (simp at this ⊢; omega))
                have K3 := K2.trans (hb5.mono K2.size)
                have T3 : _ ∧ _ ∧ _ := ⟨cellKeep hb5 T2.1, cellKeep hb5 T2.2.1, cellKeep hb5 T2.2.2⟩
                have RL3 := RL2.below hb5
                have RX3 := RX2.below hb5
                have G3 := (hb5.block _ (Array.getElem?_eq_some_iff.1 G2).1).trans G2
                refine hK.out _ _ (T3) (fun hHeld => ?_)
                clear hK K
                try simp only [Act.put, List.setIfInBounds_toArray, List.set_cons_zero, List.set_cons_succ]
                refine wpAnyU_ready (rs := [6]) (by kernel_rfl) (by simp) ?_
                refine consU rfl (fun K hK => ?_) ?_
                · refine step_push_off rfl (.tmp 122) (.tmp 124) rfl slRule rfl O0 rfl RX3 (ruleCells_one ⟨ra, rb⟩) (by have := K3.size; simpa using this) (by omega) ?_
                  intro A9 c9 w8 hown8 hg8 hat8
                  have b8 := (Below.refl wr.heap.size _).grown hg8 (by have := K3.size; simpa using this) (fun _ hk => (O0.lt _ hk).1)
                  have K4 := K3.trans b8
                  have G4 := (hg8.block _ (Array.getElem?_eq_some_iff.1 G3).1 (fun e => by obtain ⟨cu, hcu⟩ := O0.type e.symm; rw [G3] at hcu; simp at hcu)).trans G3
                  have T4 : _ ∧ _ ∧ _ := ⟨cellBelow b8 LT5.out T3.1, cellBelow b8 LT7.out T3.2.1, cellBelow b8 LT7.out T3.2.2⟩
                  refine hK.out _ _ (T4) (fun hHeld => ?_)
                  clear hK K
                  try simp only [Act.put, List.setIfInBounds_toArray, List.set_cons_zero, List.set_cons_succ]
                  refine takeU (i := 7) (v := ?v4012) rfl (by kernel_rfl) (fun _ _ _ h => hQ _ _ _ _ _ h) (Or.inl ⟨by rfl, ?hy4012⟩) (by assumption) ?rest4012
                  case hy4012 => (intro w hSw; (try dsimp only at hSw); (first | (go_simp; done) | (go_simp; with_reducible rfl)))
                  case rest4012 =>
                    try simp only [Act.put, List.setIfInBounds_toArray, List.set_cons_zero, List.set_cons_succ]
                    refine wpAnyU_ready (rs := [9]) (by kernel_rfl) (by simp) ?_
                    refine lastU rfl (fun K hK => ?_)
                    have y0 : (w8).cell? ⟨wr.heap.size, 0, none⟩ = some (.int .i64 0) := (cell_of_row _ _ 0 _ _ _ G4).trans rfl
                    have y1 : (w8).cell? ⟨wr.heap.size, 1, none⟩ = some (.slice none 0 0) := (cell_of_row _ _ 1 _ _ _ G4).trans rfl
                    have z0 : (w8).frozen? ⟨wr.heap.size, 0, none⟩ = false := frozen_of_row _ _ 0 _ _ G4
                    have z1 : (w8).frozen? ⟨wr.heap.size, 1, none⟩ = false := frozen_of_row _ _ 1 _ _ G4
                    go_simp
                    refine hK.out _ _ ?_
                    clear hK K
                    try simp only [Act.put, List.setIfInBounds_toArray, List.set_cons_zero, List.set_cons_succ]
                    refine wpAnyU_done (by kernel_rfl) ?_ _
                    exact cont3 _ _ A9 c9 _ _ _ _ _ _ _ _ _ _ _ _ _ _ _ _ _ _ _ _ _ _ _ _ _ _ _ _ _ _ _ _ _ _ _ _ _ _ _ _ _ _ _ _ _ _ _ _ _ _ _ _ _ _ _ _ _ _ _ _ _ _ _ _ _ _ _ _ _ _ _ _ _ _ _ _ _ _ _ _ _ _ _ _ _ _ _ _ _ _ _ _ _ _ _ _ _ _ _ _ _ _ _ _ _ _ _ _ _ _ _ _ _ _ _ _ _ _ ((K4.setCell NG _).setCell NG _) ((cell_set_ne _ (Or.inr (by decide))).trans (cell_set_eq _ y0)) (cell_two' y1 _ _) (by rw [ruls_snoc]; exact ((hown8.setApart G4 (by decide) _ _).setApart (heap_setCell_same _ _ 0 _ _ _ G4) (by decide) _ _).own.rd)
                exact AllU.nil
              exact AllU.nil
            exact AllU.nil
          exact AllU.nil
end Go.Proofs.Ytlohpphmamapeaa
/-
  A turn of the completion: the contract of TurnWork of the program.
  Conditions: at most 2^20 rules, equations, letters; the capacity of the queue is at least its length; the global MaxLen holds an int.
-/
namespace Go.Proofs.Ytlohpphmamapeaa
open Go.RowKit
set_option linter.unusedVariables false
set_option linter.unusedSimpArgs false
/-- Both steps of a pair, made by the program. -/
theorem pair_apply {k : Int} {A : Option Addr} {c : Nat} {rs : List M.Rule} {p : M.Pair} {W : World} (hok : M.SystemOk k rs = true) (hp : p ∈ M.pairTo rs rs.length) (hA : Rd W 2 A rs.length (ruls rs)) :
    Calls Try.prog 105 #[.agg #[.int .i64 k, .slice A rs.length c], .string ⟨p.word.toArray⟩, .agg #[.int .i64 p.r1, .int .i64 p.p1]] W (fun e w' => ∃ bb, e = .returned (.tuple #[.string ⟨(M.pairEq rs p).left.toArray⟩, .bool bb]) ∧ Below W.heap.size W w') ∧
    Calls Try.prog 105 #[.agg #[.int .i64 k, .slice A rs.length c], .string ⟨p.word.toArray⟩, .agg #[.int .i64 p.r2, .int .i64 p.p2]] W (fun e w' => ∃ bb, e = .returned (.tuple #[.string ⟨(M.pairEq rs p).right.toArray⟩, .bool bb]) ∧ Below W.heap.size W w') := by
  obtain ⟨i, j, q, hi, hj, e1, e2, e3, e4, h16, _⟩ := pair_sides hok hp
  have hs := sys_short hok
  have h12 := (sys_iff.1 hok).2.1
  unfold M.pairEq
  simp only
  rw [e1, e2, e3, e4, replaced_at hi, replaced_at hj]
  exact ⟨(apply_c k A c rs p.word i 0 W hA hi (by omega) hs (by omega)).mono fun e w' h => ⟨_, h⟩, (apply_c k A c rs p.word j q W hA hj (by omega) hs (by omega)).mono fun e w' h => ⟨_, h⟩⟩
set_option maxRecDepth 100000 in
set_option maxHeartbeats 60000000 in
theorem impl_TurnWork_c (mx : Int) (k : Int) (A : Option Addr) (c : Nat) (rs : List M.Rule) (B : Option Addr) (d : Nat) (qs : List M.Rule) (t : Int) (w : World) (hA : Rd w 2 A rs.length (ruls rs)) (hB : Rd w 2 B qs.length (ruls qs)) (hd : qs.length ≤ d) (hl : rs.length ≤ 1048576) (hs : ∀ r ∈ rs, r.left.length ≤ 1048576 ∧ r.right.length ≤ 1048576) (hql : qs.length ≤ 1048576) (hqs : ∀ r ∈ qs, r.left.length ≤ 1048576 ∧ r.right.length ≤ 1048576) (hmx : w.cell? ⟨0, 0, none⟩ = some (.int .i64 mx)) :
    Calls Try.prog 44 #[.agg #[.int .i64 k, .slice A rs.length c, .slice B qs.length d, .int .i64 t]] w (RetTurn 84 k (M.turn k rs qs t) w) := by
  have HA := Lib.hid (fun W (hb : Below w.heap.size w W) => hA.below hb)
  have HB := Lib.hid (fun W (hb : Below w.heap.size w W) => hB.below hb)
  have HOK := Lib.hid (fun W h1 h2 => impl_WorkOk_c k A c rs B d qs t W h1 h2 hl hs hql hqs)
  have HCA := Lib.hid (fun W h => cloneRule_any A c rs W h hl)
  have HCB := Lib.hid (fun W h => cloneRule_any B d qs W h hql)
  have HMX := Lib.hid (fun W (hb : Below w.heap.size w W) => cellKeep hb hmx)
  have H0 := Lib.hid (show CopyS w ((w.alloc (.cells #[.int .i64 k, .slice A rs.length c, .slice B qs.length d, .int .i64 t] 60)).alloc (.cells #[.int .i64 0, .slice none 0 0, .slice none 0 0, .int .i64 0] 60)) k A rs.length c B qs.length d t from
    ⟨⟨by simp [go_sem], by simp [go_sem], by simp [go_sem], by simp [go_sem]⟩, ⟨by simp [go_sem], by simp [go_sem], by simp [go_sem], by simp [go_sem]⟩, ⟨by simp [go_sem], by simp [go_sem], by simp [go_sem], by simp [go_sem]⟩, by simp, below_al (below_al (Below.refl _ _) _) _⟩)
  generalize hw0 : (w.alloc (.cells #[.int .i64 k, .slice A rs.length c, .slice B qs.length d, .int .i64 t] 60)).alloc (.cells #[.int .i64 0, .slice none 0 0, .slice none 0 0, .int .i64 0] 60) = w0 at H0
  have HW0 := Lib.hid hw0
  have HL := Lib.hid (And.intro hA (And.intro hB (And.intro hl (And.intro hs (And.intro hql (And.intro hqs hd))))))
  clear hw0 hA hB hl hs hql hqs hmx hd
  obtain ⟨X, hX⟩ : ∃ X, X = M.turn k rs qs t := ⟨_, rfl⟩
  rw [← hX]
  have HX := Lib.hid hX
  clear hX
  obtain ⟨n, hn⟩ : ∃ n, n = rs.length := ⟨_, rfl⟩
  have HN := Lib.hid hn
  obtain ⟨m, hm⟩ : ∃ m, m = qs.length := ⟨_, rfl⟩
  have HM := Lib.hid hm
  rw [← hn] at HA HOK HCA H0 HW0 ⊢
  rw [← hm] at HB HOK HCB H0 HW0 ⊢
  clear hn hm
  go_enter Try.func44, Try.ntmps44
  go_wp2_with fail
  rw [HW0.out]
  clear HW0
  rename_i K0 hK0

  have cont : ∀ (W : World) (g : Nat) (A1 : Option Addr) (c1 : Nat) (B1 : Option Addr) (d1 : Nat) (v22 v23 v24 v25 v26 v27 v28 v29 v30 v31 v32 v33 v34 v35 : Value), CopyS w W k A n c B m d t → OutQ 84 60 (w.heap.size + 2) W g k A1 n c1 (ruls rs) B1 m d1 (ruls qs) t → K0 ⟨#[.agg #[.int .i64 k, .slice A n c, .slice B m d, .int .i64 t], .pointer (some ⟨w.heap.size, 0, none⟩), .pointer (some ⟨w.heap.size + 1, 0, none⟩), .int .i64 0, .pointer (some ⟨g, 0, none⟩), undef, undef, undef, undef, undef, undef, undef, undef, undef, undef, undef, undef, undef, undef, undef, undef, undef, v22, v23, v24, v25, v26, v27, v28, v29, v30, v31, v32, v33, v34, v35, undef, undef, undef, undef, undef, undef, undef, undef, undef, undef, undef, undef, undef, undef, undef, undef, undef, undef, undef, undef, undef, undef, undef, undef, undef, undef, undef, undef, undef, undef, undef, undef, undef, undef, undef, undef, undef, undef, undef, undef, undef, undef, undef, undef, undef, undef, undef, undef, undef, undef, undef, undef, undef, undef, undef, undef, undef, undef, undef, undef, undef, undef, undef, undef, undef, undef, undef, undef, undef, undef, undef, undef, undef, undef, undef, undef, undef, undef, undef, undef, undef, undef, undef, undef, undef, undef, undef, undef, undef, undef, undef, undef, undef, undef, undef, undef, undef, undef, undef, undef, undef, undef, undef, undef, undef, undef, undef, undef, undef, undef, undef, undef, undef, undef, undef, undef, undef, undef, undef, undef, undef, undef, undef, undef, undef, undef, undef, undef, undef, undef, undef, undef, undef, undef, undef, undef, undef, undef, undef, undef, undef, undef, undef, undef, undef, undef, undef, undef, undef, undef, undef, undef, undef, undef, undef, undef, undef, undef, undef, undef, undef, undef, undef, undef, undef, undef, undef, undef, undef, undef, undef, undef, undef, undef, undef, undef, undef, undef, undef, undef, undef, undef], []⟩ W := by
    intro W g A1 c1 B1 d1 v22 v23 v24 v25 v26 v27 v28 v29 v30 v31 v32 v33 v34 v35 hc ho
    refine hK0 _ _ ?_
    have Q1 := Lib.hid hc
    have QO1 := Lib.hid ho
    clear hc ho hK0 H0 HCA
    cases hok : M.WorkOk k rs qs t with
    | false =>
      have hX := HX.out
      rw [show M.turn k rs qs t = ⟨rs, qs, t, 4⟩ from if_pos hok] at hX
      subst hX
      rw [hok] at HOK
      clear HX HCB HMX HL hok
      obtain ⟨⟨a0, a1, a2, a3⟩, _⟩ := Q1.out
      go_wp2_with fail
      refine (HOK.out _ (HA.out _ Q1.out.2.2.2.2) (HB.out _ Q1.out.2.2.2.2)).mono ?_
      rintro e w1 ⟨rfl, hb⟩
      have Q2 := Lib.hid (Q1.out.below hb)
      have QO2 := Lib.hid (QO1.out.below hb)
      clear hb a0 a1 a2 a3 Q1 QO1 HOK
      obtain ⟨s0, s1, s2, s3⟩ := QO2.out.tab
      obtain ⟨_, ⟨b0, b1, b2, b3⟩, ⟨f0, f1, f2, f3⟩, _, _⟩ := Q2.out
      have ha := QO2.out.2.2.2.2
      go_wp2_with fail
      have hn := HN.out
      have hm := HM.out
      subst hn
      subst hm
      obtain ⟨r1, r2, r3⟩ := Q2.out.fin QO2.out.2.2.1 QO2.out.2.2.2.1 (.int .i64 k) (.slice A1 rs.length c1) (.slice B1 qs.length d1) (.int .i64 (t))
      obtain ⟨x0, x1, x2, x3⟩ := Q2.out.res (.int .i64 k) (.slice A1 rs.length c1) (.slice B1 qs.length d1) (.int .i64 (t))
      refine bodyPost_ret (v := .tuple #[.agg #[.int .i64 k, .slice A1 rs.length c1, .slice B1 qs.length d1, .int .i64 (t)], .int .i64 4]) (by simp [results, Try.results44, go_sem, x0, x1, x2, x3]) rfl ⟨A1, c1, B1, d1, rfl, r1, r2, ha, r3⟩
    | true =>
    rw [hok] at HOK
    obtain ⟨hsy, hq4, ht2, hf⟩ := work_iff.1 hok
    cases qs with
    | nil =>
      have hX := HX.out
      rw [show M.turn k rs [] t = ⟨rs, [], t, 0⟩ from by unfold M.turn; rw [if_neg (by rw [hok]; simp)]] at hX
      subst hX
      obtain rfl : m = 0 := HM.out
      clear HX HCB HMX HL hok hsy hq4 hf
      obtain ⟨⟨a0, a1, a2, a3⟩, _⟩ := Q1.out
      go_wp2_with fail
      refine (HOK.out _ (HA.out _ Q1.out.2.2.2.2) (HB.out _ Q1.out.2.2.2.2)).mono ?_
      rintro e w1 ⟨rfl, hb⟩
      have Q2 := Lib.hid (Q1.out.below hb)
      have QO2 := Lib.hid (QO1.out.below hb)
      clear hb a0 a1 a2 a3 Q1 QO1 HOK
      obtain ⟨⟨a0, a1, a2, a3⟩, _⟩ := Q2.out
      obtain ⟨s0, s1, s2, s3⟩ := QO2.out.tab
      obtain ⟨_, ⟨b0, b1, b2, b3⟩, ⟨f0, f1, f2, f3⟩, _, _⟩ := Q2.out
      have ha := QO2.out.2.2.2.2
      go_wp2_with fail
      have hn := HN.out
      subst hn
      obtain ⟨r1, r2, r3⟩ := Q2.out.fin QO2.out.2.2.1 QO2.out.2.2.2.1 (.int .i64 k) (.slice A1 rs.length c1) (.slice B1 0 d1) (.int .i64 (t))
      obtain ⟨x0, x1, x2, x3⟩ := Q2.out.res (.int .i64 k) (.slice A1 rs.length c1) (.slice B1 0 d1) (.int .i64 (t))
      refine bodyPost_ret (v := .tuple #[.agg #[.int .i64 k, .slice A1 rs.length c1, .slice B1 0 d1, .int .i64 (t)], .int .i64 0]) (by simp [results, Try.results44, go_sem, x0, x1, x2, x3]) rfl ⟨A1, c1, B1, d1, rfl, r1, r2, ha, r3⟩
    | cons q qt =>
    obtain ⟨p, hp⟩ : ∃ p, p = qt.length := ⟨_, rfl⟩
    obtain rfl : m = p + 1 := by have := HM.out; simp only [List.length_cons] at this; omega
    have HP := Lib.hid hp
    have hp4 : p < 400 := by simp only [List.length_cons] at hq4; omega
    have hp0 : ¬ ((p : Int) + 1 = 0) := by omega
    clear hp HM hq4
    by_cases h200 : t = 200
    case pos =>
      subst h200
      have hX := HX.out
      rw [show M.turn k rs (q :: qt) 200 = ⟨rs, q :: qt, 200, 3⟩ from by unfold M.turn; rw [if_neg (by rw [hok]; simp)]; rfl] at hX
      subst hX
      clear HX HCB HMX HL hok hsy hf
      obtain ⟨⟨a0, a1, a2, a3⟩, _⟩ := Q1.out
      go_wp2_with fail
      refine (HOK.out _ (HA.out _ Q1.out.2.2.2.2) (HB.out _ Q1.out.2.2.2.2)).mono ?_
      rintro e w1 ⟨rfl, hb⟩
      have Q2 := Lib.hid (Q1.out.below hb)
      have QO2 := Lib.hid (QO1.out.below hb)
      clear hb a0 a1 a2 a3 Q1 QO1 HOK
      obtain ⟨⟨a0, a1, a2, a3⟩, ⟨b0, b1, b2, b3⟩, ⟨f0, f1, f2, f3⟩, _, _⟩ := Q2.out
      obtain ⟨s0, s1, s2, s3⟩ := QO2.out.tab
      have ha := QO2.out.2.2.2.2
      go_wp2_with fail
      have hn := HN.out
      have hp := HP.out
      subst hn
      subst hp
      obtain ⟨r1, r2, r3⟩ := Q2.out.fin QO2.out.2.2.1 QO2.out.2.2.2.1 (.int .i64 k) (.slice A1 rs.length c1) (.slice B1 (qt.length + 1) d1) (.int .i64 (200))
      obtain ⟨x0, x1, x2, x3⟩ := Q2.out.res (.int .i64 k) (.slice A1 rs.length c1) (.slice B1 (qt.length + 1) d1) (.int .i64 (200))
      refine bodyPost_ret (v := .tuple #[.agg #[.int .i64 k, .slice A1 rs.length c1, .slice B1 (qt.length + 1) d1, .int .i64 (200)], .int .i64 3]) (by simp [results, Try.results44, go_sem, x0, x1, x2, x3]) rfl ⟨A1, c1, B1, d1, rfl, r1, r2, ha, r3⟩
    case neg =>
    obtain ⟨hA, hB, hl, hs, hql, hqs, hdq⟩ := HL.out
    obtain ⟨b, o, rfl, hz, hc1, hc2⟩ := hB.ruleAt (k := 0) (by simp)
    simp only [List.getElem_cons_zero, Nat.zero_mul, Nat.add_zero] at hc1 hc2
    have HQ := Lib.hid (fun W (hb : Below w.heap.size w W) => And.intro (cellKeep hb hc1) (cellKeep hb hc2))
    obtain ⟨hk, h12, hg⟩ := sys_iff.1 hsy
    obtain ⟨fl, fr⟩ := hf q (by simp)
    have HT1 := Lib.hid (fun W h => normal_c k A c rs q.left W h hl hs (good_ordered hg) fl)
    have HT2 := Lib.hid (fun W h => normal_c k A c rs q.right W h hl hs (good_ordered hg) fr)
    have hu16 := (normal_fit (good_ordered hg) _ q.left (Nat.le_refl _) fl).1.2.2
    have hv16 := (normal_fit (good_ordered hg) _ q.right (Nat.le_refl _) fr).1.2.2
    have HGD := Lib.hid (fun hne h8 => turnRule_good hok rfl hne h8)
    have HXX := Lib.hid (HX.out.trans (show M.turn k rs (q :: qt) t = if M.normal rs q.left = M.normal rs q.right then ⟨rs, qt, t + 1, 0⟩ else M.turnRule rs (q :: qt) qt t (M.oriented ⟨M.normal rs q.left, M.normal rs q.right⟩) from by unfold M.turn; rw [if_neg (by rw [hok]; simp)]; exact if_neg h200))
    have hpd : p + 1 ≤ d := by have := HP.out; simp only [List.length_cons] at hdq; omega
    have HCT := Lib.hid (fun W (h : Below w.heap.size w W) => cloneRule_any (tailA 2 (some ⟨b, o, none⟩) d) (d - 1) qt W (by have h1 := (hB.below h).cut hdq; rwa [ruls_drop] at h1) (by simp only [List.length_cons] at hql; omega))
    rw [← HP.out] at HCT
    have hsl := fun W => run_tail (P := Try.prog) slRule (some ⟨b, o, none⟩) p d hpd W
    have HSY := Lib.hid (And.intro hsy (And.intro hk (And.intro h12 hg)))
    have ht3 : 0 ≤ t ∧ t < 200 := ⟨ht2.1, by omega⟩
    have hwrap : (t + 1 + 9223372036854775808) % 18446744073709551616 - 9223372036854775808 = t + 1 := by omega
    obtain ⟨u, hu⟩ : ∃ u, u = M.normal rs q.left := ⟨_, rfl⟩
    obtain ⟨v, hv⟩ : ∃ v, v = M.normal rs q.right := ⟨_, rfl⟩
    rw [← hu] at HT1 hu16 HGD HXX
    rw [← hv] at HT2 hv16 HGD HXX
    clear hu hv
    obtain ⟨ql, qr⟩ := q
    simp only at HQ HT1 HT2
    rw [← HN.out] at HT1 HT2
    have ht200 : (t == 200) = false := by simpa using h200
    clear hA hB hl hs hql hqs hdq hz hc1 hc2 fl fr hf hok hsy hk h12 hg HX HL HCB
    obtain ⟨⟨a0, a1, a2, a3⟩, _⟩ := Q1.out
    go_wp2_with fail
    refine (HOK.out _ (HA.out _ Q1.out.2.2.2.2) (HB.out _ Q1.out.2.2.2.2)).mono ?_
    rintro e w1 ⟨rfl, hb⟩
    have Q2 := Lib.hid (Q1.out.below hb)
    have QO2 := Lib.hid (QO1.out.below hb)
    clear hb a0 a1 a2 a3 Q1 QO1 HOK
    have AL := ref_al w1 (.cells #[.int .i64 k, .slice A n c] 28)
    obtain ⟨⟨a0, a1, a2, a3⟩, _⟩ := Q2.out
    have a2' := cellKeep AL a2
    have Q9 := Lib.hid (Q2.out.below AL)
    have QO9 := Lib.hid (QO2.out.below AL)
    have T5 := Lib.hid (show (w1.alloc (.cells #[.int .i64 k, .slice A n c] 28)).cell? ⟨w1.heap.size, 0, none⟩ = some (.int .i64 k) ∧ (w1.alloc (.cells #[.int .i64 k, .slice A n c] 28)).cell? ⟨w1.heap.size, 1, none⟩ = some (.slice A n c) from ⟨by simp [go_sem], by simp [go_sem]⟩)
    clear AL
    go_wp2_with fail
    refine (HCT.out _ Q9.out.2.2.2.2).mono ?_
    rintro e w2 ⟨A6, c6, rfl, hown, hb2⟩
    have O6 := Lib.hid (OwnS.of_row hown)
    have B2 := Lib.hid hb2
    clear hown hb2 a0 a1 a2 a3 a2' Q2 QO2 HCT hsl
    generalize w1.alloc (.cells #[.int .i64 k, .slice A n c] 28) = W9 at *
    generalize w1.heap.size = g5 at *
    go_wp2_with fail
    rename_i K2 hK2
    have cont2 : ∀ (W : World) (g7 : Nat) (v22 v23 v24 v25 v26 v27 v28 v29 v30 v31 v32 v33 v34 v35 v36 v37 v38 v39 v40 v41 v42 v43 v44 v45 v46 v47 v48 v49 v50 v51 v52 v53 v54 v55 v56 v57 v58 v59 v60 v61 v62 v63 v64 v65 v66 v67 v68 v69 v70 v71 v72 : Value), Below w2.heap.size w2 W → W.heap[g7]? = some (.cells #[.string ⟨u.toArray⟩, .string ⟨v.toArray⟩] 84 (0, 0)) → w2.heap.size ≤ g7 → K2 ⟨#[.agg #[.int .i64 k, .slice A n c, .slice (some ⟨b, o, none⟩) (p + 1) d, .int .i64 t], .pointer (some ⟨w.heap.size, 0, none⟩), .pointer (some ⟨w.heap.size + 1, 0, none⟩), .int .i64 0, .pointer (some ⟨g, 0, none⟩), .pointer (some ⟨g5, 0, none⟩), .slice A6 p c6, .pointer (some ⟨g7, 0, none⟩), undef, undef, undef, undef, undef, undef, undef, undef, undef, undef, undef, undef, undef, undef, v22, v23, v24, v25, v26, v27, v28, v29, v30, v31, v32, v33, v34, v35, v36, v37, v38, v39, v40, v41, v42, v43, v44, v45, v46, v47, v48, v49, v50, v51, v52, v53, v54, v55, v56, v57, v58, v59, v60, v61, v62, v63, v64, v65, v66, v67, v68, v69, v70, v71, v72, undef, undef, undef, undef, undef, undef, undef, undef, undef, undef, undef, undef, undef, undef, undef, undef, undef, undef, undef, undef, undef, undef, undef, undef, undef, undef, undef, undef, undef, undef, undef, undef, undef, undef, undef, undef, undef, undef, undef, undef, undef, undef, undef, undef, undef, undef, undef, undef, undef, undef, undef, undef, undef, undef, undef, undef, undef, undef, undef, undef, undef, undef, undef, undef, undef, undef, undef, undef, undef, undef, undef, undef, undef, undef, undef, undef, undef, undef, undef, undef, undef, undef, undef, undef, undef, undef, undef, undef, undef, undef, undef, undef, undef, undef, undef, undef, undef, undef, undef, undef, undef, undef, undef, undef, undef, undef, undef, undef, undef, undef, undef, undef, undef, undef, undef, undef, undef, undef, undef, undef, undef, undef, undef, undef, undef, undef, undef, undef, undef, undef, undef, undef, undef, undef, undef, undef, undef, undef, undef, undef, undef, undef, undef, undef, undef], []⟩ W := by
      intro W g7 v22 v23 v24 v25 v26 v27 v28 v29 v30 v31 v32 v33 v34 v35 v36 v37 v38 v39 v40 v41 v42 v43 v44 v45 v46 v47 v48 v49 v50 v51 v52 v53 v54 v55 v56 v57 v58 v59 v60 v61 v62 v63 v64 v65 v66 v67 v68 v69 v70 v71 v72 hbW hG7 hl7
      refine hK2 _ _ ?_
      have BW := Lib.hid (B2.out.trans (hbW.mono B2.out.size))
      have G7 := Lib.hid hG7
      have OQ6 := Lib.hid (O6.out.below hbW)
      have AP7 := Lib.hid (show ∀ y, blkS A6 c6 = some y → y ≠ g7 from fun y hy => by have := (O6.out.lt y hy).2; omega)
      have HB9 := Lib.hid Q9.out.2.2.2.1
      have HG7 := Lib.hid (Nat.le_trans B2.out.size hl7)
      clear hbW hG7 hl7 hK2 HT1 HT2 HQ O6 B2
      have QW := Lib.hid (Q9.out.below BW.out)
      have QOW := Lib.hid (QO9.out.below BW.out)
      have TW := Lib.hid (And.intro (cellKeep BW.out T5.out.1) (cellKeep BW.out T5.out.2))
      have e70 : W.cell? ⟨g7, 0, none⟩ = some (.string ⟨u.toArray⟩) := (cell_of_row _ _ 0 _ _ _ G7.out).trans rfl
      have e71 : W.cell? ⟨g7, 1, none⟩ = some (.string ⟨v.toArray⟩) := (cell_of_row _ _ 1 _ _ _ G7.out).trans rfl
      have AP16 := Lib.hid (show apartS A1 c1 A6 c6 from fun y h1 h2 => by have := (QO9.out.2.2.1.lt y h1).2; have := (OQ6.out.lt y h2).1; omega)
      by_cases huv : u = v
      case pos =>
        subst huv
        have hX := HXX.out
        rw [if_pos rfl] at hX
        subst hX
        go_wp2_with fail
        have Od := Lib.hid (OQ6.out.mono HB9.out)
        obtain ⟨⟨a0, a1, a2, a3⟩, _⟩ := QW.out
        obtain ⟨s0, s1, s2, s3⟩ := QOW.out.tab
        have gf := QOW.out.free
        have U1 := Lib.hid (QOW.out.setQ (by decide) Od.out AP16.out)
        have U2 := Lib.hid (QOW.out.setT (by decide) (t + 1))
        have a3' := (QW.out.setAt QOW.out.2.1 2 (.slice A6 p c6)).1.2.2.2
        have s3' := U1.out.tab.2.2.2
        have s2' := U2.out.tab.2.2.1
        have gf1 := U1.out.free 3
        have gf2 := U2.out.free 2
        go_region
        have QF := Lib.hid (((QW.out.setAt QOW.out.2.1 2 (.slice A6 p c6)).setAt (g := g) QOW.out.2.1 3 (.int .i64 (t + 1))).below (Below.refl _ _).drew)
        have UF := Lib.hid ((U1.out.setT (by decide) (t + 1)).below (Below.refl _ _).drew)
        clear a0 a1 a2 a3 s0 s1 s2 s3 gf a3' s3' s2' gf1 gf2 U1 U2 e70 e71
        generalize ((W.setCell ⟨g, 2, none⟩ (.slice A6 p c6)).setCell ⟨g, 3, none⟩ (.int .i64 (t + 1))).drew = W12 at *
        obtain ⟨s0, s1, s2, s3⟩ := UF.out.tab
        obtain ⟨_, ⟨b0, b1, b2, b3⟩, ⟨f0, f1, f2, f3⟩, _, _⟩ := QF.out
        have ha := UF.out.2.2.2.2
        go_wp2_with fail
        have hn := HN.out
        have hp := HP.out
        subst hn
        subst hp
        obtain ⟨r1, r2, r3⟩ := QF.out.fin UF.out.2.2.1 UF.out.2.2.2.1 (.int .i64 k) (.slice A1 rs.length c1) (.slice A6 qt.length c6) (.int .i64 (t + 1))
        obtain ⟨x0, x1, x2, x3⟩ := QF.out.res (.int .i64 k) (.slice A1 rs.length c1) (.slice A6 qt.length c6) (.int .i64 (t + 1))
        refine bodyPost_ret (v := .tuple #[.agg #[.int .i64 k, .slice A1 rs.length c1, .slice A6 qt.length c6, .int .i64 (t + 1)], .int .i64 0]) (by simp [results, Try.results44, go_sem, x0, x1, x2, x3]) rfl ⟨A1, c1, A6, c6, rfl, r1, r2, ha, r3⟩
      case neg =>
      have huv' : (u == v) = false := by simpa using huv
      have HOR := Lib.hid (fun W => oriented_c u v W (by omega) (by omega))
      have hX := HXX.out
      rw [if_neg huv] at hX
      have hgd := HGD.out huv
      have hor16 : (M.oriented ⟨u, v⟩).left.length ≤ 16 ∧ (M.oriented ⟨u, v⟩).right.length ≤ 16 := by unfold M.oriented; split <;> exact ⟨by simp only; omega, by simp only; omega⟩
      obtain ⟨r, hr⟩ : ∃ r, r = M.oriented ⟨u, v⟩ := ⟨_, rfl⟩
      rw [← hr] at HOR hX hgd hor16
      clear hr huv HXX HGD
      obtain ⟨ra, rb⟩ := r
      simp only at HOR hor16 hgd
      unfold M.turnRule at hX
      simp only at hX
      have HX3 := Lib.hid hX
      have HGD2 := Lib.hid hgd
      clear hX hgd
      go_wp2_with fail
      refine (HOR.out _).mono ?_
      rintro e w3 ⟨rfl, hb3⟩
      have B3 := Lib.hid (BW.out.trans (hb3.mono BW.out.size))
      have G73 := Lib.hid ((hb3.block _ (Array.getElem?_eq_some_iff.1 G7.out).1).trans G7.out)
      have O63 := Lib.hid (OQ6.out.below hb3)
      have y0 := cellKeep hb3 e70
      have y1 := cellKeep hb3 e71
      have yf0 : w3.frozen? ⟨g7, 0, none⟩ = false := frozen_of_row _ _ 0 _ _ G73.out
      have yf1 : w3.frozen? ⟨g7, 1, none⟩ = false := frozen_of_row _ _ 1 _ _ G73.out
      clear hb3 e70 e71 HOR OQ6 G7
      have HA0 := Lib.hid (show LoopA W9 ((w3.setCell ⟨g7, 0, none⟩ (.string ⟨ra.toArray⟩)).setCell ⟨g7, 1, none⟩ (.string ⟨rb.toArray⟩)) 84 g7 ⟨ra, rb⟩ A6 p c6 qt none 0 0 [] from
        have hl9 := HG7.out
        have gr : ∀ (W : World) (o : Nat) (u : Value), W.grownBy (W.setCell ⟨g7, o, none⟩ u) (some g7) := fun W o u => ⟨rfl, rfl, rfl, by simp, fun k _ hk => heap_setCell_other W ⟨g7, o, none⟩ k u (fun e => hk (by simp [e]))⟩
        have hne : ∀ x, blkS A6 c6 = some x → some x ≠ some g7 := fun x hx ex => AP7.out x hx (by injection ex)
        ⟨(B3.out.setCell hl9 _).setCell hl9 _, heap_setCell_same _ g7 1 _ _ _ (heap_setCell_same _ g7 0 _ _ _ G73.out), (O63.out.grown (gr _ _ _) hne).grown (gr _ _ _) hne, ⟨by simp [ruls], Nat.le_refl _, by simp [maxLen], fun h => by omega⟩, fun y h1 h2 => by simp [blkS] at h2, AP7.out, fun y hy => by simp [blkS] at hy⟩)
      have yy := (cell_set_ne (b := g7) (o := 0) (.string ⟨ra.toArray⟩) (Or.inr (show (0 : Nat) ≠ 1 by decide))).trans y1
      have yyf : (w3.setCell ⟨g7, 0, none⟩ (.string ⟨ra.toArray⟩)).frozen? ⟨g7, 1, none⟩ = false := by simpa using yf1
      obtain ⟨yA, yB⟩ := HA0.out.tab
      have QZ := Lib.hid (Q9.out.below HA0.out.1)
      have QOZ := Lib.hid (QO9.out.below HA0.out.1)
      by_cases h8 : 8 < ra.length
      case pos =>
        have hX := HX3.out
        rw [if_pos h8] at hX
        subst hX
        have h8' : (8 : Int) < (ra.length : Int) := by omega
        obtain ⟨⟨a0, a1, a2, a3⟩, ⟨b0, b1, b2, b3⟩, ⟨f0, f1, f2, f3⟩, _, _⟩ := QZ.out
        obtain ⟨s0, s1, s2, s3⟩ := QOZ.out.tab
        have ha := QOZ.out.2.2.2.2
        go_wp2_with fail
        have hn := HN.out
        have hp := HP.out
        subst hn
        subst hp
        obtain ⟨r1, r2, r3⟩ := QZ.out.fin QOZ.out.2.2.1 QOZ.out.2.2.2.1 (.int .i64 k) (.slice A1 rs.length c1) (.slice B1 (qt.length + 1) d1) (.int .i64 (t))
        obtain ⟨x0, x1, x2, x3⟩ := QZ.out.res (.int .i64 k) (.slice A1 rs.length c1) (.slice B1 (qt.length + 1) d1) (.int .i64 (t))
        refine bodyPost_ret (v := .tuple #[.agg #[.int .i64 k, .slice A1 rs.length c1, .slice B1 (qt.length + 1) d1, .int .i64 (t)], .int .i64 1]) (by simp [results, Try.results44, go_sem, x0, x1, x2, x3]) rfl ⟨A1, c1, B1, d1, rfl, r1, r2, ha, r3⟩
      case neg =>
      have hGood := HGD2.out h8
      have hX4 := HX3.out
      rw [if_neg h8] at hX4
      have HX4 := Lib.hid hX4
      clear hX4
      have h8' : ¬ ((8 : Int) < (ra.length : Int)) := by omega
      have hlb : rb.length ≤ 8 := hGood.2.2.2.2
      have h8b : ¬ ((8 : Int) < (rb.length : Int)) := by omega
      have HCO := Lib.hid (fun l W (hl : l.length ≤ 1048576) (h : Below w.heap.size w W) => contains_c l ra mx W hl (good_pos hGood) (HMX.out W h))
      have HGO := Lib.hid hGood
      have HW9 := Lib.hid (fun W (h : Below W9.heap.size W9 W) => Q9.out.2.2.2.2.trans (h.mono Q9.out.2.2.2.2.size))
      have HKS := Lib.hid (fun (i : Nat) (hi : i < rs.length) h => kept_snoc (l := ra) hi h)
      have HGS := Lib.hid (fun (i : Nat) (hi : i < rs.length) h => gone_snoc (l := ra) hi h)
      have t51 := cellKeep HA0.out.1 T5.out.2
      clear hGood HGD2 HX3 h8 QZ QOZ AP7 HG7 G73 O63 B3 BW QW QOW TW HMX AP16 HB9
      have hnb : n ≤ 12 := by rw [HN.out]; exact HSY.out.2.2.1
      go_wp2_with fail
      clear yy yyf y0 y1 yf0 yf1
      generalize (w3.setCell ⟨g7, 0, none⟩ (.string ⟨ra.toArray⟩)).setCell ⟨g7, 1, none⟩ (.string ⟨rb.toArray⟩) = w4 at *
      go_loopw [101, 6, 8] (fun z s6 s8 wr => ∃ (i : Nat) (A6' : Option Addr) (c6' : Nat) (A8 : Option Addr) (c8 : Nat), i ≤ n ∧ z = .int .i64 i ∧ s6 = .slice A6' (qt ++ M.gone ra (rs.take i)).length c6' ∧ s8 = .slice A8 (M.kept ra (rs.take i)).length c8 ∧ LoopA W9 wr 84 g7 ⟨ra, rb⟩ A6' (qt ++ M.gone ra (rs.take i)).length c6' (qt ++ M.gone ra (rs.take i)) A8 (M.kept ra (rs.take i)).length c8 (M.kept ra (rs.take i))) (fun z _ _ _ => n - (intOf z).toNat)
      case atStart =>
        have h1 : qt ++ M.gone ra (rs.take 0) = qt := by simp [M.gone]
        exact ⟨0, A6, c6, none, 0, by omega, rfl, by rw [h1, ← HP.out], rfl, by rw [h1, ← HP.out]; exact HA0.out⟩
      case round =>
      clear HA0 t51 yA yB
      obtain ⟨i, A6', c6', A8, c8, hi, rfl, rfl, rfl, hq⟩ := hrel
      have HQ := Lib.hid hq
      clear hq
      have HGL := Lib.hid (show (qt ++ M.gone ra (rs.take i)).length ≤ 512 ∧ (M.kept ra (rs.take i)).length ≤ 12 from by
        have h1 := gone_len ra (rs.take i)
        have h2 := kept_len ra (rs.take i)
        rw [List.length_take] at h1 h2
        rw [List.length_append, ← HP.out]
        omega)
      by_cases hlt : i < n
      case neg =>
        obtain rfl : i = n := by omega
        have HTK := Lib.hid (show rs.take i = rs by rw [HN.out, List.take_length])
        rw [HTK.out] at HQ HGL ⊢
        obtain ⟨q6, hq6⟩ : ∃ q6, q6 = qt ++ M.gone ra rs := ⟨_, rfl⟩
        rw [← hq6] at HQ HGL ⊢
        have HQ6 := Lib.hid hq6
        clear hq6
        obtain ⟨ks, hks⟩ : ∃ ks, ks = M.kept ra rs := ⟨_, rfl⟩
        rw [← hks] at HQ HGL ⊢
        have HKE := Lib.hid hks
        clear hks
        obtain ⟨n6, hn6⟩ : ∃ n6, n6 = q6.length := ⟨_, rfl⟩
        obtain ⟨n8, hn8⟩ : ∃ n8, n8 = ks.length := ⟨_, rfl⟩
        rw [← hn6, ← hn8] at HQ HGL ⊢
        have HN6 := Lib.hid hn6
        have HN8 := Lib.hid hn8
        clear hn6 hn8
        clear HKS HGS HCO HTK
        have hok := ruls_one' ks
        have hn8b : n8 ≤ 12 := HGL.out.2
        have hn6b : n6 ≤ 512 := HGL.out.1
        have HCK := Lib.hid (fun W h => cloneRule_any A8 c8 ks W h (by have := HN8.out; omega))
        rw [← HN8.out] at HCK
        go_wp2_with fail
        rename_i K3 hK3
        have cont3 : ∀ (W : World) (g11 : Nat) (A11 : Option Addr) (c11 : Nat) (v0 v9 v10 v12 v13 v14 v15 v16 v17 v18 v19 v20 v21 v22 v23 v24 v25 v26 v27 v28 v29 v30 v31 v32 v33 v34 v35 v36 v37 v38 v39 v40 v41 v42 v43 v44 v45 v46 v47 v48 v49 v50 v51 v52 v53 v54 v55 v56 v57 v58 v59 v60 v61 v62 v63 v64 v65 v66 v67 v68 v69 v70 v71 v72 v73 v74 v75 v76 v77 v78 v79 v80 v81 v82 v83 v84 v85 v86 v87 v88 v89 v90 v91 v92 v93 v94 v95 v96 v97 v98 v99 v100 v101 v102 v103 v104 v105 v106 v107 v108 v109 v110 v111 v112 v113 v114 v115 v116 v117 v118 v119 v120 v121 v122 v123 v124 v125 v126 : Value), Below wr.heap.size wr W → W.cell? ⟨g11, 0, none⟩ = some (.int .i64 k) → W.cell? ⟨g11, 1, none⟩ = some (.slice A11 (n8 + 1) c11) → Rd W 2 A11 (n8 + 1) (ruls (ks ++ [⟨ra, rb⟩])) → K3 ⟨#[v0, .pointer (some ⟨w.heap.size, 0, none⟩), .pointer (some ⟨w.heap.size + 1, 0, none⟩), .int .i64 0, .pointer (some ⟨g, 0, none⟩), .pointer (some ⟨g5, 0, none⟩), .slice A6' n6 c6', .pointer (some ⟨g7, 0, none⟩), .slice A8 n8 c8, v9, v10, .pointer (some ⟨g11, 0, none⟩), v12, v13, v14, v15, v16, v17, v18, v19, v20, v21, v22, v23, v24, v25, v26, v27, v28, v29, v30, v31, v32, v33, v34, v35, v36, v37, v38, v39, v40, v41, v42, v43, v44, v45, v46, v47, v48, v49, v50, v51, v52, v53, v54, v55, v56, v57, v58, v59, v60, v61, v62, v63, v64, v65, v66, v67, v68, v69, v70, v71, v72, v73, v74, v75, v76, v77, v78, v79, v80, v81, v82, v83, v84, v85, v86, v87, v88, v89, v90, v91, v92, v93, v94, v95, v96, v97, v98, v99, v100, v101, v102, v103, v104, v105, v106, v107, v108, v109, v110, v111, v112, v113, v114, v115, v116, v117, v118, v119, v120, v121, v122, v123, v124, v125, v126, undef, undef, undef, undef, undef, undef, undef, undef, undef, undef, undef, undef, undef, undef, undef, undef, undef, undef, undef, undef, undef, undef, undef, undef, undef, undef, undef, undef, undef, undef, undef, undef, undef, undef, undef, undef, undef, undef, undef, undef, undef, undef, undef, undef, undef, undef, undef, undef, undef, undef, undef, undef, undef, undef, undef, undef, undef, undef, undef, undef, undef, undef, undef, undef, undef, undef, undef, undef, undef, undef, undef, undef, undef, undef, undef, undef, undef, undef, undef, undef, undef, undef, undef, undef, undef, undef, undef, undef, undef, undef, undef], []⟩ W := by
          intro W g11 A11 c11 v0 v9 v10 v12 v13 v14 v15 v16 v17 v18 v19 v20 v21 v22 v23 v24 v25 v26 v27 v28 v29 v30 v31 v32 v33 v34 v35 v36 v37 v38 v39 v40 v41 v42 v43 v44 v45 v46 v47 v48 v49 v50 v51 v52 v53 v54 v55 v56 v57 v58 v59 v60 v61 v62 v63 v64 v65 v66 v67 v68 v69 v70 v71 v72 v73 v74 v75 v76 v77 v78 v79 v80 v81 v82 v83 v84 v85 v86 v87 v88 v89 v90 v91 v92 v93 v94 v95 v96 v97 v98 v99 v100 v101 v102 v103 v104 v105 v106 v107 v108 v109 v110 v111 v112 v113 v114 v115 v116 v117 v118 v119 v120 v121 v122 v123 v124 v125 v126 hbW h110 h111 hR11
          refine hK3 _ _ ?_
          have HQW := Lib.hid (HQ.out.below hbW)
          have H110 := Lib.hid h110
          have H111 := Lib.hid h111
          have HR11 := Lib.hid hR11
          have t50 := cellKeep HQW.out.1 T5.out.1
          clear hbW h110 h111 hR11 hK3 HQ HCK
          obtain ⟨al, hal⟩ : ∃ al, al = ks ++ [(⟨ra, rb⟩ : M.Rule)] := ⟨_, rfl⟩
          rw [← hal] at HR11
          have hlal : al.length = n8 + 1 := by rw [hal, List.length_append, ← HN8.out]; rfl
          have hgw : ∀ x ∈ al, M.Good k x := by rw [hal, HKE.out]; exact with_good HGO.out HSY.out.2.2.2
          have hsw : ∀ x ∈ al, x.left.length ≤ 1048576 ∧ x.right.length ≤ 1048576 := fun x hx => ⟨Nat.le_trans (hgw x hx).2.2.2.1 (by decide), Nat.le_trans (hgw x hx).2.2.2.2 (by decide)⟩
          have HNM := Lib.hid (fun W' h l hf => normal_c k A11 c11 al l W' h (by omega) hsw (good_ordered hgw) hf)
          rw [hlal] at HNM
          have HFX := Lib.hid (fun x (hx : x ∈ ks) => (good_wd HSY.out.2.1 (hgw x (by rw [hal]; exact List.mem_append_left _ hx))).2)
          have HRE := Lib.hid (fun (j : Nat) (hj : j < ks.length) => reduced_snoc (all := al) hj)
          have HAL := Lib.hid hal
          clear hal hlal hgw hsw
          have LT11 := Lib.hid (World.block_lt_of_cell? W ⟨g11, 0, none⟩ H110.out)
          go_wp2_with fail
          have HR0 := Lib.hid (show InsR W (W.alloc (.cells #[.int .i64 k, .slice none 0 0] 28)) k 84 28 none 0 0 (M.reduced al (ks.take 0)) from ⟨ref_al _ _, heap_alloc_new _ _, ⟨by simp [ruls, M.reduced], Nat.le_refl _, by simp [maxLen], fun h => by omega⟩⟩)
          clear t50
          go_loopw [132] (fun z wn => ∃ (j : Nat) (N' : Option Addr) (c' : Nat), j ≤ n8 ∧ z = .int .i64 j ∧ InsR W wn k 84 28 N' j c' (M.reduced al (ks.take j))) (fun z _ => n8 - (intOf z).toNat)
          case atStart => exact ⟨0, none, 0, by omega, rfl, HR0.out⟩
          case round =>
            clear HR0
            obtain ⟨j, N', c', hj, rfl, hq⟩ := hrel
            have HR := Lib.hid hq
            clear hq
            by_cases hlt2 : j < n8
            case neg =>
              obtain rfl : j = n8 := by omega
              have HTJ := Lib.hid (show ks.take j = ks by rw [HN8.out, List.take_length])
              rw [HTJ.out] at HR
              obtain ⟨NS, hNS⟩ : ∃ NS, NS = M.reduced al ks ++ [(⟨ra, rb⟩ : M.Rule)] := ⟨_, rfl⟩
              have hNN : NS = M.nextRules rs ⟨ra, rb⟩ := by rw [hNS, HAL.out, HKE.out]; rfl
              have hnl : NS.length = j + 1 := by rw [hNS, List.length_append, reduced_len, ← HN8.out]; rfl
              have hX4 := HX4.out
              rw [← hNN] at hX4
              have HXN := Lib.hid hX4
              have HNL := Lib.hid hnl
              have HNSE := Lib.hid hNS
              have HNN := Lib.hid hNN
              clear hX4 hNS hNN HX4 HNM HFX HRE HAL hnl HTJ
              have HRA := Lib.hid (HR.out.below (ref_al wr (.cells #[.string ⟨ra.toArray⟩, .string ⟨rb.toArray⟩] 84)))
              have HQR := Lib.hid (HQW.out.below HR.out.1)
              obtain ⟨y70, y71⟩ := HQR.out.tab
              have e12 := HR.out.tab.2
              have HB9W := Lib.hid HQW.out.1
              by_cases h13 : 12 < j + 1
              case pos =>
                have hX := HXN.out
                rw [HNL.out, if_pos h13] at hX
                subst hX
                have h13' : (12 : Int) < (j : Int) + 1 := by omega
                go_wp2_with (at_builtin; refine push_off_many rfl _ _ rfl slRule rfl HRA.out.2.2 rfl (rd_lit _ ⟨ra, rb⟩ _) (ruleCells_one ⟨ra, rb⟩) HRA.out.lt (by omega) ?_; intro A12 c12 w7 hown7 hg7 hat7; obtain ⟨l7, f7, q7⟩ := HRA.out.push (by decide) hg7 hown7; have e0 := q7.tab.1; have e1 := q7.tab.2; have QZ := Lib.hid (Q9.out.below (HB9W.out.trans (q7.1.mono HB9W.out.size))); have QOZ := Lib.hid (QO9.out.below (HB9W.out.trans (q7.1.mono HB9W.out.size))); obtain ⟨⟨a0, a1, a2, a3⟩, ⟨b0, b1, b2, b3⟩, ⟨f0, f1, f2, f3⟩, _, _⟩ := QZ.out; obtain ⟨s0, s1, s2, s3⟩ := QOZ.out.tab; have ha := QOZ.out.2.2.2.2)
                try go_wp2_with fail
                have hn := HN.out
                have hp := HP.out
                subst hn
                subst hp
                obtain ⟨r1, r2, r3⟩ := QZ.out.fin QOZ.out.2.2.1 QOZ.out.2.2.2.1 (.int .i64 k) (.slice A1 rs.length c1) (.slice B1 (qt.length + 1) d1) (.int .i64 (t))
                obtain ⟨x0, x1, x2, x3⟩ := QZ.out.res (.int .i64 k) (.slice A1 rs.length c1) (.slice B1 (qt.length + 1) d1) (.int .i64 (t))
                refine bodyPost_ret (v := .tuple #[.agg #[.int .i64 k, .slice A1 rs.length c1, .slice B1 (qt.length + 1) d1, .int .i64 (t)], .int .i64 2]) (by simp [results, Try.results44, go_sem, x0, x1, x2, x3]) rfl ⟨A1, c1, B1, d1, rfl, r1, r2, ha, r3⟩
              case neg =>
              have hX := HXN.out
              rw [HNL.out, if_neg h13] at hX
              have HX5 := Lib.hid hX
              clear hX
              have h13' : ¬ ((12 : Int) < (j : Int) + 1) := by omega
              have HSN := Lib.hid (show M.SystemOk k NS = true from by have h1 := HNN.out; rw [h1]; exact next_sys HSY.out.2.1 HGO.out HSY.out.2.2.2 (by rw [← h1, HNL.out]; exact h13))
              go_wp2_with (at_builtin; refine push_off_many rfl _ _ rfl slRule rfl HRA.out.2.2 rfl (rd_lit _ ⟨ra, rb⟩ _) (ruleCells_one ⟨ra, rb⟩) HRA.out.lt (by omega) ?_; intro A12 c12 w7 hown7 hg7 hat7; obtain ⟨l7, f7, q7⟩ := HRA.out.push (by decide) hg7 hown7; have e0 := q7.tab.1; have e1 := q7.tab.2; have QZ := Lib.hid (Q9.out.below (HB9W.out.trans (q7.1.mono HB9W.out.size))); have QOZ := Lib.hid (QO9.out.below (HB9W.out.trans (q7.1.mono HB9W.out.size))); obtain ⟨⟨a0, a1, a2, a3⟩, ⟨b0, b1, b2, b3⟩, ⟨f0, f1, f2, f3⟩, _, _⟩ := QZ.out; obtain ⟨s0, s1, s2, s3⟩ := QOZ.out.tab; have ha := QOZ.out.2.2.2.2)
              try go_wp2_with fail
              rw [← HNSE.out] at q7
              have HQ7 := Lib.hid q7
              clear l7 f7 q7 e0 e1 a0 a1 a2 a3 b0 b1 b2 b3 f0 f1 f2 f3 s0 s1 s2 s3 ha QZ QOZ hown7 hg7 hat7 HRA HR HQR y70 y71 e12
              have HPR := Lib.hid (fun W' h => pairs_c k A12 c12 NS W' h (sys_iff.1 HSN.out).2.1 (fun i => sides8 HSN.out))
              have HPA := Lib.hid (fun (q : M.Pair) (hq : q ∈ M.pairTo NS NS.length) W' h => pair_apply (c := c12) HSN.out hq (A := A12) (W := W') h)
              have HNP := Lib.hid (show (M.pairTo NS NS.length).length ≤ 13000 from by
                have h1 := to_len8 (rs := NS) (fun i => sides8 HSN.out) (sys_iff.1 HSN.out).2.1 NS.length
                have h2 := (sys_iff.1 HSN.out).2.1
                omega)
              have HXQ := Lib.hid (show M.nextQueue rs qt ⟨ra, rb⟩ = q6 ++ M.newEqs NS (M.pairTo NS NS.length) from by rw [HQ6.out]; unfold M.nextQueue; rw [← HNN.out])
              have hX5 := HX5.out
              rw [HXQ.out] at hX5
              have HX6 := Lib.hid hX5
              clear hX5 HX5 HXQ
              have HIN : Hid (∀ q : M.Pair, M.isNew NS q = (decide (q.r1 = (j : Int)) || decide (q.r2 = (j : Int)))) := Lib.hid (by intro q; unfold M.isNew; rw [HNL.out]; simp)
              have HYES := Lib.hid (fun (i : Nat) (ps : List M.Pair) (hi : i < ps.length) (h : M.isNew NS ps[i] = true) => new_yes hi h)
              have HNO := Lib.hid (fun (i : Nat) (ps : List M.Pair) (hi : i < ps.length) (h : M.isNew NS ps[i] = false) => new_no hi h)
              have HLEN := Lib.hid (fun ps => new_len NS ps)
              have HF0 := Lib.hid (show M.newEqs NS [] = [] from rfl)
              rw [HNL.out] at HPR HPA HNP HX6
              generalize M.pairTo NS (j + 1) = ps at *
              generalize M.newEqs NS = F at *
              generalize M.pairEq NS = E at *
              generalize M.isNew NS = NW at *
              obtain ⟨np, hnp⟩ : ∃ np, np = ps.length := ⟨_, rfl⟩
              have HPS := Lib.hid hnp
              rw [← hnp] at HPR HNP
              have hnpb : np ≤ 13000 := HNP.out
              clear hnp
              generalize w7.setCell ⟨W.heap.size, 1, none⟩ (.slice A12 (j + 1) c12) = w8 at *
              refine (HPR.out _ HQ7.out.2.2.own.rd).mono ?_
              rintro e w9 ⟨D, cd, rfl, hown, hb9⟩
              have HC0 := Lib.hid (show LoopC W9 w9 84 28 131 k A6' n6 c6' q6 W.heap.size A12 (j + 1) c12 NS D np cd (pairs_ ps) from
                ⟨HB9W.out.trans ((HQ7.out.1.trans (hb9.mono HQ7.out.1.size)).mono HB9W.out.size), (HQ7.out.below hb9).2.1, (HQW.out.2.2.1.below HQ7.out.1).below hb9, (HQ7.out.below hb9).2.2.mono (by have := HB9W.out.size; omega), fun x h1 h2 => by have h3 := (HQW.out.2.2.1.lt x h1).2; have h4 := (HQ7.out.2.2.lt x h2).1; omega, (OwnS.of_row hown).mono (Nat.le_trans HB9W.out.size HQ7.out.1.size)⟩)
              clear hown hb9 HPR HQ7 HQW HB9W H110 H111 HR11 LT11
              generalize W.heap.size = g12 at *
              go_wp2_with fail
              go_loopw [167, 6] (fun z s wr => ∃ (i : Nat) (A9 : Option Addr) (c9 : Nat), i ≤ np ∧ z = .int .i64 i ∧ s = .slice A9 (q6 ++ F (ps.take i)).length c9 ∧ LoopC W9 wr 84 28 131 k A9 (q6 ++ F (ps.take i)).length c9 (q6 ++ F (ps.take i)) g12 A12 (j + 1) c12 NS D np cd (pairs_ ps)) (fun z _ _ => np - (intOf z).toNat)
              case atStart =>
                have h1 : q6 ++ F (ps.take 0) = q6 := by rw [List.take_zero, HF0.out, List.append_nil]
                exact ⟨0, A6', c6', by omega, rfl, by rw [h1, ← HN6.out], by rw [h1, ← HN6.out]; exact HC0.out⟩
              case round =>
                clear HC0
                obtain ⟨i, A9, c9, hi, rfl, rfl, hq⟩ := hrel
                have HQC := Lib.hid hq
                clear hq
                have HL9 := Lib.hid (show (q6 ++ F (ps.take i)).length ≤ 20000 from by
                  have h1 := HLEN.out (ps.take i)
                  rw [List.length_take] at h1
                  rw [List.length_append, ← HN6.out]
                  omega)
                by_cases hlt3 : i < np
                case neg =>
                  obtain rfl : i = np := by omega
                  have HTP := Lib.hid (show ps.take i = ps by rw [HPS.out, List.take_length])
                  rw [HTP.out] at HQC HL9 ⊢
                  obtain ⟨ZS, hZS⟩ : ∃ ZS, ZS = q6 ++ F ps := ⟨_, rfl⟩
                  rw [← hZS] at HQC HL9 HX6 ⊢
                  have QZ := Lib.hid (Q9.out.below HQC.out.1)
                  have QOZ := Lib.hid (QO9.out.below HQC.out.1)
                  obtain ⟨⟨a0, a1, a2, a3⟩, ⟨b0, b1, b2, b3⟩, ⟨f0, f1, f2, f3⟩, _, _⟩ := QZ.out
                  obtain ⟨s0, s1, s2, s3⟩ := QOZ.out.tab
                  have ha := QOZ.out.2.2.2.2
                  by_cases h4 : 400 < ZS.length
                  case pos =>
                    have hX := HX6.out
                    rw [if_pos h4] at hX
                    subst hX
                    have h4' : (400 : Int) < (ZS.length : Int) := by omega
                    clear hZS HTP
                    go_wp2_with fail
                    have hn := HN.out
                    have hp := HP.out
                    subst hn
                    subst hp
                    obtain ⟨r1, r2, r3⟩ := QZ.out.fin QOZ.out.2.2.1 QOZ.out.2.2.2.1 (.int .i64 k) (.slice A1 rs.length c1) (.slice B1 (qt.length + 1) d1) (.int .i64 (t))
                    obtain ⟨x0, x1, x2, x3⟩ := QZ.out.res (.int .i64 k) (.slice A1 rs.length c1) (.slice B1 (qt.length + 1) d1) (.int .i64 (t))
                    refine bodyPost_ret (v := .tuple #[.agg #[.int .i64 k, .slice A1 rs.length c1, .slice B1 (qt.length + 1) d1, .int .i64 (t)], .int .i64 2]) (by simp [results, Try.results44, go_sem, x0, x1, x2, x3]) rfl ⟨A1, c1, B1, d1, rfl, r1, r2, ha, r3⟩
                  case neg =>
                    have hX := HX6.out
                    rw [if_neg h4] at hX
                    subst hX
                    have h4' : ¬ ((400 : Int) < (ZS.length : Int)) := by omega
                    obtain ⟨e0, e1⟩ := HQC.out.tab
                    have hac := HQC.out.2.2.2.2.1.symm
                    clear hZS HTP s0 s1 s2 s3
                    go_wp2_with fail
                    have O1 := HQC.out.2.2.2.1.mono Q9.out.2.2.2.1
                    have O2 := HQC.out.2.2.1.mono Q9.out.2.2.2.1
                    rw [← HNL.out] at O1 ⊢
                    obtain ⟨r1, r2, r3⟩ := QZ.out.fin O1 O2 (.int .i64 k) (.slice A12 NS.length c12) (.slice A9 ZS.length c9) (.int .i64 (t + 1))
                    obtain ⟨x0, x1, x2, x3⟩ := QZ.out.res (.int .i64 k) (.slice A12 NS.length c12) (.slice A9 ZS.length c9) (.int .i64 (t + 1))
                    refine bodyPost_ret (v := .tuple #[.agg #[.int .i64 k, .slice A12 NS.length c12, .slice A9 ZS.length c9, .int .i64 (t + 1)], .int .i64 0]) (by simp [results, Try.results44, go_sem, x0, x1, x2, x3]) rfl ⟨A12, c12, A9, c9, rfl, r1, r2, hac, r3⟩
                case pos =>
                  obtain ⟨b4, o4, rfl, hz, d0, d1, d2, d3, d4⟩ := HQC.out.2.2.2.2.2.own.rd.pairAt (k := i) hlt3
                  have HY := Lib.hid (HYES.out i ps hz)
                  have HN2 := Lib.hid (HNO.out i ps hz)
                  rw [HIN.out] at HY HN2
                  have HP3 := Lib.hid (fun W' h => HPA.out ps[i] (List.getElem_mem hz) W' h)
                  generalize hx : ps[i] = x at *
                  obtain ⟨xw, x1, x2, x3, x4⟩ := x
                  simp only at d0 d1 d2 d3 d4 HY HN2 HP3
                  generalize hE : E ⟨xw, x1, x2, x3, x4⟩ = rr at *
                  obtain ⟨ul, ur⟩ := rr
                  simp only at HP3
                  generalize F (ps.take i) = es at *
                  generalize hF1 : F (ps.take (i + 1)) = es1 at *
                  have HF1 := Lib.hid hF1
                  clear hx hE hF1
                  obtain ⟨qq, hqq⟩ : ∃ qq, qq = q6 ++ es := ⟨_, rfl⟩
                  rw [← hqq] at HQC HL9 ⊢
                  have HQQ := Lib.hid hqq
                  clear hqq
                  obtain ⟨nq, hnq⟩ : ∃ nq, nq = qq.length := ⟨_, rfl⟩
                  rw [← hnq] at HQC HL9 ⊢
                  have HNQ := Lib.hid hnq
                  clear hnq
                  have hnq2 : nq ≤ 20000 := HL9.out
                  have HQ1 := Lib.hid (HQC.out.below (ref_al wr (.cells #[.string ⟨xw.toArray⟩, .int .i64 x1, .int .i64 x2, .int .i64 x3, .int .i64 x4] 131)))
                  obtain ⟨m0, m1⟩ := HQ1.out.tab
                  by_cases h1 : x1 = (j : Int)
                  case pos =>
                    subst h1
                    have HE := Lib.hid (HY.out (by simp))
                    go_wp2_with fail
                    refine (HP3.out _ HQ1.out.2.2.2.1.own.rd).1.mono ?_
                    rintro e wA ⟨bA, rfl, hbA⟩
                    have HQA := Lib.hid (HQ1.out.below hbA)
                    clear m0 m1
                    obtain ⟨m0, m1⟩ := HQA.out.tab
                    have p0 : wA.cell? ⟨wr.heap.size, 0, none⟩ = some (.string ⟨xw.toArray⟩) := cellKeep hbA (by simp [go_sem])
                    have p3 : wA.cell? ⟨wr.heap.size, 3, none⟩ = some (.int .i64 x3) := cellKeep hbA (by simp [go_sem])
                    have p4 : wA.cell? ⟨wr.heap.size, 4, none⟩ = some (.int .i64 x4) := cellKeep hbA (by simp [go_sem])
                    clear hbA d0 d1 d2 d3 d4
                    go_wp2_with fail
                    refine (HP3.out _ HQA.out.2.2.2.1.own.rd).2.mono ?_
                    rintro e wB ⟨bB, rfl, hbB⟩
                    have HQB := Lib.hid (HQA.out.below hbB)
                    clear hbB m0 m1 p0 p3 p4
                    have hbw := (HQB.out.below (ref_al _ (.cells #[.string ⟨ul.toArray⟩, .string ⟨ur.toArray⟩] 84))).1.size
                    go_wp2_with (at_builtin; refine push_off_many rfl _ _ rfl slRule rfl (HQB.out.below (ref_al _ _)).2.2.1 rfl (rd_lit _ ⟨ul, ur⟩ _) (ruleCells_one ⟨ul, ur⟩) hbw (by omega) ?_; intro A7 c7 w7 hown7 hg7 hat7)
                    have HQ7 := Lib.hid ((HQB.out.below (ref_al _ _)).push (by decide) (by decide) hg7 hat7 (x := ⟨ul, ur⟩) hown7)
                    clear hown7 hg7 hat7 hbw
                    try go_wp2_with fail
                    go_roundw
                    case rel =>
                      have hqe : q6 ++ es1 = qq ++ [⟨ul, ur⟩] := by rw [HE.out, HQQ.out, List.append_assoc]
                      refine ⟨i + 1, A7, c7, by omega, by go_num, ?_, ?_⟩
                      · rw [HF1.out, hqe, List.length_append, ← HNQ.out]; rfl
                      · rw [HF1.out, hqe, List.length_append, ← HNQ.out]; exact HQ7.out
                    case measure => simp [intOf] <;> omega
                  case neg =>
                  have h1' : (x1 != (j : Int)) = true := by simpa using h1
                  by_cases h3 : x3 = (j : Int)
                  case pos =>
                    subst h3
                    have HE := Lib.hid (HY.out (by simp))
                    go_wp2_with fail
                    refine (HP3.out _ HQ1.out.2.2.2.1.own.rd).1.mono ?_
                    rintro e wA ⟨bA, rfl, hbA⟩
                    have HQA := Lib.hid (HQ1.out.below hbA)
                    clear m0 m1
                    obtain ⟨m0, m1⟩ := HQA.out.tab
                    have p0 : wA.cell? ⟨wr.heap.size, 0, none⟩ = some (.string ⟨xw.toArray⟩) := cellKeep hbA (by simp [go_sem])
                    have p3 : wA.cell? ⟨wr.heap.size, 3, none⟩ = some (.int .i64 (j : Int)) := cellKeep hbA (by simp [go_sem])
                    have p4 : wA.cell? ⟨wr.heap.size, 4, none⟩ = some (.int .i64 x4) := cellKeep hbA (by simp [go_sem])
                    clear hbA d0 d1 d2 d3 d4
                    go_wp2_with fail
                    refine (HP3.out _ HQA.out.2.2.2.1.own.rd).2.mono ?_
                    rintro e wB ⟨bB, rfl, hbB⟩
                    have HQB := Lib.hid (HQA.out.below hbB)
                    clear hbB m0 m1 p0 p3 p4
                    have hbw := (HQB.out.below (ref_al _ (.cells #[.string ⟨ul.toArray⟩, .string ⟨ur.toArray⟩] 84))).1.size
                    go_wp2_with (at_builtin; refine push_off_many rfl _ _ rfl slRule rfl (HQB.out.below (ref_al _ _)).2.2.1 rfl (rd_lit _ ⟨ul, ur⟩ _) (ruleCells_one ⟨ul, ur⟩) hbw (by omega) ?_; intro A7 c7 w7 hown7 hg7 hat7)
                    have HQ7 := Lib.hid ((HQB.out.below (ref_al _ _)).push (by decide) (by decide) hg7 hat7 (x := ⟨ul, ur⟩) hown7)
                    clear hown7 hg7 hat7 hbw
                    try go_wp2_with fail
                    go_roundw
                    case rel =>
                      have hqe : q6 ++ es1 = qq ++ [⟨ul, ur⟩] := by rw [HE.out, HQQ.out, List.append_assoc]
                      refine ⟨i + 1, A7, c7, by omega, by go_num, ?_, ?_⟩
                      · rw [HF1.out, hqe, List.length_append, ← HNQ.out]; rfl
                      · rw [HF1.out, hqe, List.length_append, ← HNQ.out]; exact HQ7.out
                    case measure => simp [intOf] <;> omega
                  case neg =>
                  have h3' : (x3 != (j : Int)) = true := by simpa using h3
                  have HE := Lib.hid (HN2.out (by simp [h1, h3]))
                  go_wp2_with fail
                  go_roundw
                  case rel =>
                    refine ⟨i + 1, A9, c9, by omega, by go_num, ?_, ?_⟩
                    · rw [HF1.out, HE.out, ← HQQ.out, ← HNQ.out]
                    · rw [HF1.out, HE.out, ← HQQ.out, ← HNQ.out]; exact HQ1.out
                  case measure => simp [intOf] <;> omega
            case pos =>
              have hz1 : j < ks.length := by have := HN8.out; omega
              have HNX := Lib.hid (HRE.out j hz1)
              have HFJ := Lib.hid (HFX.out ks[j] (List.getElem_mem hz1))
              obtain ⟨b3, o3, rfl, hz, hc1, hc2⟩ := (HQW.out.below HR.out.1).2.2.2.1.own.rd.ruleAt (k := j) hlt2
              generalize ks[j] = x at *
              obtain ⟨xl, xr⟩ := x
              simp only at hc1 hc2 HNX HFJ
              generalize hts : M.reduced al (ks.take j) = ts at *
              generalize hts1 : M.reduced al (ks.take (j + 1)) = ts1 at *
              have HT1 := Lib.hid hts1
              clear hts hts1
              have HNJ := Lib.hid (fun W' h => HNM.out W' h xr HFJ.out)
              obtain ⟨y, hy⟩ : ∃ y, y = M.normal al xr := ⟨_, rfl⟩
              rw [← hy] at HNJ HNX
              clear hy
              go_wp2_with fail
              have HRA := Lib.hid (HR.out.below (ref_al wr (.cells #[.string ⟨xl.toArray⟩, .string ⟨xr.toArray⟩] 84)))
              have G14 := Lib.hid (show (wr.alloc (.cells #[.string ⟨xl.toArray⟩, .string ⟨xr.toArray⟩] 84)).heap[wr.heap.size]? = some (.cells #[.string ⟨xl.toArray⟩, .string ⟨xr.toArray⟩] 84 (0, 0)) from heap_alloc_new _ _)
              have APN := Lib.hid (fun y hy => (HR.out.2.2.lt y hy).2)
              clear HR hc1 hc2
              generalize wr.alloc (.cells #[.string ⟨xl.toArray⟩, .string ⟨xr.toArray⟩] 84) = wa at *
              generalize wr.heap.size = g14 at *
              have KD := (Below.refl wa.heap.size wa).drew
              have HRD := HRA.out.below KD
              have GD := (KD.block _ (Array.getElem?_eq_some_iff.1 G14.out).1).trans G14.out
              have TD : wa.drew.cell? ⟨W.heap.size, 1, none⟩ = some (.slice N' j c') ∧ wa.drew.cell? ⟨g14, 0, none⟩ = some (.string ⟨xl.toArray⟩) ∧ wa.drew.cell? ⟨g14, 1, none⟩ = some (.string ⟨xr.toArray⟩) ∧ wa.drew.cell? ⟨g11, 0, none⟩ = some (.int .i64 k) ∧ wa.drew.cell? ⟨g11, 1, none⟩ = some (.slice A11 (n8 + 1) c11) := ⟨HRD.tab.2, (cell_of_row _ _ 0 _ _ _ GD).trans rfl, (cell_of_row _ _ 1 _ _ _ GD).trans rfl, cellKeep HRD.1 H110.out, cellKeep HRD.1 H111.out⟩
              refine wp_region_U (fun w' => w'.cell? ⟨W.heap.size, 1, none⟩ = some (.slice N' j c') ∧ w'.cell? ⟨g14, 0, none⟩ = some (.string ⟨xl.toArray⟩) ∧ w'.cell? ⟨g14, 1, none⟩ = some (.string ⟨xr.toArray⟩) ∧ w'.cell? ⟨g11, 0, none⟩ = some (.int .i64 k) ∧ w'.cell? ⟨g11, 1, none⟩ = some (.slice A11 (n8 + 1) c11)) 12 (by kernel_rfl) (TD) (fun hHeld => ?_)
              refine takeU (i := 0) (v := ?v6001) rfl (by kernel_rfl) (fun _ _ _ h => h) (Or.inl ⟨by rfl, ?hy6001⟩) (by assumption) ?rest6001
              case hy6001 => (intro w hSw; (try dsimp only at hSw); (first | (go_simp; done) | (go_simp; with_reducible rfl)))
              case rest6001 =>
                try simp only [Act.put, List.setIfInBounds_toArray, List.set_cons_zero, List.set_cons_succ]
                refine takeU (i := 1) (v := ?v6002) rfl (by kernel_rfl) (fun _ _ _ h => h) (Or.inl ⟨by rfl, ?hy6002⟩) (by assumption) ?rest6002
                case hy6002 => (intro w hSw; (try dsimp only at hSw); (first | (go_simp; done) | (go_simp; with_reducible rfl)))
                case rest6002 =>
                  try simp only [Act.put, List.setIfInBounds_toArray, List.set_cons_zero, List.set_cons_succ]
                  refine takeU (i := 2) (v := ?v6003) rfl (by kernel_rfl) (fun _ _ _ h => h) (Or.inl ⟨by rfl, ?hy6003⟩) (by assumption) ?rest6003
                  case hy6003 => (intro w hSw; (try dsimp only at hSw); (first | (go_simp; done) | (go_simp; with_reducible rfl)))
                  case rest6003 =>
                    try simp only [Act.put, List.setIfInBounds_toArray, List.set_cons_zero, List.set_cons_succ]
                    refine takeU (i := 3) (v := ?v6004) rfl (by kernel_rfl) (fun _ _ _ h => h) (Or.inl ⟨by rfl, ?hy6004⟩) (by assumption) ?rest6004
                    case hy6004 => (intro w hSw; (try dsimp only at hSw); (first | (go_simp; done) | (go_simp; with_reducible rfl)))
                    case rest6004 =>
                      try simp only [Act.put, List.setIfInBounds_toArray, List.set_cons_zero, List.set_cons_succ]
                      refine takeU (i := 4) (v := ?v6005) rfl (by kernel_rfl) (fun _ _ _ h => h) (Or.inl ⟨by rfl, ?hy6005⟩) (by assumption) ?rest6005
                      case hy6005 => (intro w hSw; (try dsimp only at hSw); (first | (go_simp; done) | (go_simp; with_reducible rfl)))
                      case rest6005 =>
                        try simp only [Act.put, List.setIfInBounds_toArray, List.set_cons_zero, List.set_cons_succ]
                        refine takeU (i := 5) (v := ?v6006) rfl (by kernel_rfl) (fun _ _ _ h => h) (Or.inl ⟨by rfl, ?hy6006⟩) (by assumption) ?rest6006
                        case hy6006 => (intro w hSw; (try dsimp only at hSw); (first | (go_simp; done) | (go_simp; with_reducible rfl)))
                        case rest6006 =>
                          try simp only [Act.put, List.setIfInBounds_toArray, List.set_cons_zero, List.set_cons_succ]
                          refine takeU (i := 6) (v := ?v6007) rfl (by kernel_rfl) (fun _ _ _ h => h) (Or.inl ⟨by rfl, ?hy6007⟩) (by assumption) ?rest6007
                          case hy6007 => (intro w hSw; (try dsimp only at hSw); (first | (go_simp; done) | (go_simp; with_reducible rfl)))
                          case rest6007 =>
                            try simp only [Act.put, List.setIfInBounds_toArray, List.set_cons_zero, List.set_cons_succ]
                            refine wpAnyU_ready (rs := [7]) (by kernel_rfl) (by simp) ?_
                            refine consU rfl (fun K hK => ?_) ?_
                            · go_simp
                              go_at_call 102
                              refine (HNJ.out _ (HR11.out.below HRD.1)).mono ?_
                              rintro e w5 ⟨rfl, hb5⟩
                              have HR5 := HRD.below hb5
                              have G5 := (hb5.block _ (Array.getElem?_eq_some_iff.1 GD).1).trans GD
                              have T5' : _ ∧ _ ∧ _ ∧ _ ∧ _ := ⟨cellKeep hb5 TD.1, (cell_of_row _ _ 0 _ _ _ G5).trans rfl, (cell_of_row _ _ 1 _ _ _ G5).trans rfl, cellKeep hb5 TD.2.2.2.1, cellKeep hb5 TD.2.2.2.2⟩
                              refine hK.out _ _ (T5') (fun hHeld => ?_)
                              clear hK K
                              try simp only [Act.put, List.setIfInBounds_toArray, List.set_cons_zero, List.set_cons_succ]
                              refine takeU (i := 8) (v := ?v6008) rfl (by kernel_rfl) (fun _ _ _ h => h) (Or.inl ⟨by rfl, ?hy6008⟩) (by assumption) ?rest6008
                              case hy6008 => (intro w hSw; (try dsimp only at hSw); (first | (go_simp; done) | (go_simp; with_reducible rfl)))
                              case rest6008 =>
                                try simp only [Act.put, List.setIfInBounds_toArray, List.set_cons_zero, List.set_cons_succ]
                                refine wpAnyU_ready (rs := [9]) (by kernel_rfl) (by simp) ?_
                                refine consU rfl (fun K hK => ?_) ?_
                                · go_simp
                                  have hb6 := ref_al w5 (.cells #[.string ⟨xl.toArray⟩, .string ⟨y.toArray⟩] 84)
                                  have HR6 := HR5.below hb6
                                  have G6 := (hb6.block _ (Array.getElem?_eq_some_iff.1 G5).1).trans G5
                                  have T6' : _ ∧ _ ∧ _ ∧ _ ∧ _ := ⟨cellKeep hb6 T5'.1, (cell_of_row _ _ 0 _ _ _ G6).trans rfl, (cell_of_row _ _ 1 _ _ _ G6).trans rfl, cellKeep hb6 T5'.2.2.2.1, cellKeep hb6 T5'.2.2.2.2⟩
                                  refine hK.out _ _ (T6') (fun hHeld => ?_)
                                  clear hK K
                                  try simp only [Act.put, List.setIfInBounds_toArray, List.set_cons_zero, List.set_cons_succ]
                                  refine wpAnyU_ready (rs := [10]) (by kernel_rfl) (by simp) ?_
                                  refine consU rfl (fun K hK => ?_) ?_
                                  · refine step_push_off rfl (.tmp 137) (.tmp 145) rfl slRule rfl HR6.2.2 rfl (rd_lit _ ⟨xl, y⟩ _) (ruleCells_one ⟨xl, y⟩) HR6.lt (by omega) ?_
                                    intro A9 c9 w8 hown8 hg8 hat8
                                    obtain ⟨l8, f8, q8⟩ := HR6.push (by decide) hg8 hown8
                                    have b8 : Below (W.heap.size + 1) _ w8 := (Below.refl _ _).grown hg8 HR6.lt (fun _ hk => (HR6.2.2.lt _ hk).1)
                                    have G8 := (hg8.block _ (Array.getElem?_eq_some_iff.1 G6).1 (fun e => Nat.lt_irrefl _ (APN.out _ e.symm))).trans G6
                                    refine hK.out _ _ (⟨l8, (cell_of_row _ _ 0 _ _ _ G8).trans rfl, (cell_of_row _ _ 1 _ _ _ G8).trans rfl, cellBelow b8 (Nat.lt_succ_of_lt LT11.out) T6'.2.2.2.1, cellBelow b8 (Nat.lt_succ_of_lt LT11.out) T6'.2.2.2.2⟩) (fun hHeld => ?_)
                                    clear hK K
                                    try simp only [Act.put, List.setIfInBounds_toArray, List.set_cons_zero, List.set_cons_succ]
                                    refine takeU (i := 11) (v := ?v6009) rfl (by kernel_rfl) (fun _ _ _ h => h) (Or.inl ⟨by rfl, ?hy6009⟩) (by assumption) ?rest6009
                                    case hy6009 => (intro w hSw; (try dsimp only at hSw); (first | (go_simp; done) | (go_simp; with_reducible rfl)))
                                    case rest6009 =>
                                      try simp only [Act.put, List.setIfInBounds_toArray, List.set_cons_zero, List.set_cons_succ]
                                      refine wpAnyU_ready (rs := [12]) (by kernel_rfl) (by simp) ?_
                                      refine lastU rfl (fun K hK => ?_)
                                      go_simp
                                      refine hK.out _ _ ?_
                                      clear hK K
                                      try simp only [Act.put, List.setIfInBounds_toArray, List.set_cons_zero, List.set_cons_succ]
                                      refine wpAnyU_done (by kernel_rfl) ?_ _
                                      have HQ8 := Lib.hid q8
                                      clear q8 hown8 hg8 hat8 l8 f8 b8 G8 T6' HR6 G6 T5' HR5 G5
                                      try clear hHeld
                                      try go_wp2_with fail
                                      go_roundw
                                      case rel => exact ⟨j + 1, A9, c9, by omega, by go_num, by rw [HT1.out, HNX.out]; exact HQ8.out⟩
                                      case measure => simp [intOf] <;> omega
                                  exact AllU.nil
                                exact AllU.nil
                            exact AllU.nil
        exact turn_r25 K3 _ (fun c a w dst v h => by cases dst <;> exact h) hok hn8b HCK.out HQ.out T5.out cont3
      case pos =>
        have hz0 : i < rs.length := by have := HN.out; omega
        obtain ⟨b2, o2, rfl, hz, hc1, hc2⟩ := (HA.out wr (HW9.out _ HQ.out.1)).ruleAt (k := i) hlt
        have hsz := sys_short HSY.out.1 rs[i] (List.getElem_mem hz)
        have HK1 := Lib.hid (HKS.out i hz)
        have HG1 := Lib.hid (HGS.out i hz)
        generalize rs[i] = x at *
        obtain ⟨xl, xr⟩ := x
        simp only at hc1 hc2 hsz HK1 HG1
        have HC1 := Lib.hid (fun W h => HCO.out xl W hsz.1 h)
        obtain ⟨ob, hob⟩ : ∃ ob, ob = M.occ xl ra := ⟨_, rfl⟩
        rw [← hob] at HK1 HG1 HC1
        clear hob
        generalize hg1 : M.gone ra (rs.take (i + 1)) = gs1 at *
        generalize hk1 : M.kept ra (rs.take (i + 1)) = ks1 at *
        generalize M.gone ra (rs.take i) = gs at *
        generalize M.kept ra (rs.take i) = ks at *
        have HE1 := Lib.hid hg1
        have HE2 := Lib.hid hk1
        clear hg1 hk1 hsz
        obtain ⟨q6, hq6⟩ : ∃ q6, q6 = qt ++ gs := ⟨_, rfl⟩
        rw [← hq6] at HQ HGL ⊢
        have HQ6 := Lib.hid hq6
        clear hq6
        obtain ⟨n6, hn6⟩ : ∃ n6, n6 = q6.length := ⟨_, rfl⟩
        obtain ⟨n8, hn8⟩ : ∃ n8, n8 = ks.length := ⟨_, rfl⟩
        rw [← hn6, ← hn8] at HQ HGL ⊢
        have HN6 := Lib.hid hn6
        have HN8 := Lib.hid hn8
        clear hn6 hn8
        have HQ1 := Lib.hid (HQ.out.below (ref_al wr (.cells #[.string ⟨xl.toArray⟩, .string ⟨xr.toArray⟩] 84)))
        obtain ⟨y70, y71⟩ := HQ1.out.tab
        have hlit := rd_lit (wr.alloc (.cells #[.string ⟨xl.toArray⟩, .string ⟨xr.toArray⟩] 84)) ⟨xl, xr⟩ 84
        rw [show (wr.alloc (.cells #[.string ⟨xl.toArray⟩, .string ⟨xr.toArray⟩] 84)).heap.size = wr.heap.size + 1 by simp] at hlit
        have HLIT := Lib.hid hlit
        clear hlit
        cases ob
        case false =>
          have HE := Lib.hid (HK1.out rfl)
          go_wp2_with fail
          refine (HC1.out _ (HW9.out _ HQ1.out.1)).mono ?_
          rintro e w5 ⟨rfl, rfl⟩
          have hbw := (HQ1.out.below (ref_al _ (.cells #[.string ⟨xl.toArray⟩, .string ⟨xr.toArray⟩] 84))).1.size
          go_wp2_with (at_builtin; refine push_off_many rfl _ _ rfl slRule rfl (HQ1.out.below (ref_al _ _)).2.2.2.1 rfl HLIT.out (ruleCells_one ⟨xl, xr⟩) hbw (by have := HGL.out; omega) ?_; intro A7 c7 w7 hown7 hg7 hat7)
          have HQ7 := Lib.hid ((HQ1.out.below (ref_al _ _)).push8 hg7 hat7 (x := ⟨xl, xr⟩) hown7)
          clear hown7 hg7 hat7 hbw
          try go_wp2_with fail
          go_roundw
          case rel =>
            refine ⟨i + 1, A6', c6', A7, c7, by omega, by go_num, ?_, ?_, ?_⟩
            · rw [HE1.out, HE.out.2, ← HQ6.out, ← HN6.out]
            · rw [HE2.out, HE.out.1, List.length_append, ← HN8.out]; rfl
            · rw [HE1.out, HE2.out, HE.out.1, HE.out.2, ← HQ6.out, List.length_append, ← HN6.out, ← HN8.out]; exact HQ7.out
          case measure => simp [intOf] <;> omega
        case true =>
          have HE := Lib.hid (HG1.out rfl)
          go_wp2_with fail
          refine (HC1.out _ (HW9.out _ HQ1.out.1)).mono ?_
          rintro e w5 ⟨rfl, rfl⟩
          have hbw := (HQ1.out.below (ref_al _ (.cells #[.string ⟨xl.toArray⟩, .string ⟨xr.toArray⟩] 84))).1.size
          go_wp2_with (at_builtin; refine push_off_many rfl _ _ rfl slRule rfl (HQ1.out.below (ref_al _ _)).2.2.1 rfl HLIT.out (ruleCells_one ⟨xl, xr⟩) hbw (by have := HGL.out; omega) ?_; intro A7 c7 w7 hown7 hg7 hat7)
          have HQ7 := Lib.hid ((HQ1.out.below (ref_al _ _)).push6 hg7 hat7 (x := ⟨xl, xr⟩) hown7)
          clear hown7 hg7 hat7 hbw
          try go_wp2_with fail
          go_roundw
          case rel =>
            have hqe : qt ++ gs1 = q6 ++ [⟨xl, xr⟩] := by rw [HE.out.2, HQ6.out, List.append_assoc] 
            refine ⟨i + 1, A7, c7, A8, c8, by omega, by go_num, ?_, ?_, ?_⟩
            · rw [HE1.out, hqe, List.length_append, ← HN6.out]; rfl
            · rw [HE2.out, HE.out.1, ← HN8.out]
            · rw [HE1.out, HE2.out, hqe, HE.out.1, List.length_append, ← HN6.out, ← HN8.out]; exact HQ7.out
          case measure => simp [intOf] <;> omega
    exact turn_r10 K2 _ (fun c a w dst v h => by cases dst <;> exact h) HA.out HQ.out HT1.out HT2.out Q9.out B2.out T5.out cont2
  exact turn_r1 K0 _ (fun c a w dst v h => by cases dst <;> exact h) HA.out HB.out HCA.out HCB.out H0.out cont
end Go.Proofs.Ytlohpphmamapeaa
/-
  l04Trace of the reference where the rules are refused: the word stays.
  Conditions: rules that RulesOk refuses; at most 2^20 letters.
-/
namespace Go.Proofs.Ytlohpphmamapeaa
open Go.RowKit
set_option linter.unusedVariables false
set_option linter.unusedSimpArgs false
set_option maxRecDepth 100000 in
set_option maxHeartbeats 4000000 in
theorem l04Trace_no (k : Int) (A : Option Addr) (c : Nat) (rs : List M.Rule) (l : List UInt8) (w : World) (hA : Rd w 2 A rs.length (ruls rs)) (hl : rs.length ≤ 1048576) (hs : ∀ r ∈ rs, r.left.length ≤ 1048576 ∧ r.right.length ≤ 1048576) (hro : M.RulesOk k rs = false) (hll : l.length ≤ 1048576) :
    Calls Try.prog 96 #[.agg #[.int .i64 k, .slice A rs.length c], .string ⟨l.toArray⟩] w (RetTrace l w) := by
  have HA := Lib.hid hA
  have H1 := Lib.hid (show ∀ W, Rd W 2 A rs.length (ruls rs) → Calls Try.prog 144 #[.agg #[.int .i64 k, .slice A rs.length c], .string ⟨l.toArray⟩] W (fun e w' => e = .returned (.tuple #[.agg #[.int .i64 (M.first []).1.rule, .int .i64 (M.first []).1.place], .bool false]) ∧ Below W.heap.size W w') from fun W h => by
    have h1 := spec_FirstStep_c k A c rs l W h hl hs hll
    unfold M.FirstStep at h1
    rw [steps_no hro] at h1
    exact h1)
  obtain ⟨x, hx⟩ : ∃ x, x = (M.first []).1 := ⟨_, rfl⟩
  rw [← hx] at H1
  obtain ⟨xr, xp⟩ := x
  simp only at H1
  obtain ⟨m, hm⟩ : ∃ m, m = rs.length := ⟨_, rfl⟩
  rw [← hm] at HA H1 ⊢
  clear hA hs hro hm hl hx hll
  go_enter Try.func96, Try.ntmps96
  go_wp2_with fail
  obtain ⟨w0, hw0⟩ : ∃ w0 : World, w0 = w.alloc (.cells #[.int .i64 k, .slice A m c] 28) := ⟨_, rfl⟩
  have E0 := Lib.hid (show w0.cell? ⟨w.heap.size, 0, none⟩ = some (.int .i64 k) by rw [hw0]; simp [go_sem])
  have E1 := Lib.hid (show w0.cell? ⟨w.heap.size, 1, none⟩ = some (.slice A m c) by rw [hw0]; simp [go_sem])
  have T0 := Lib.hid (show Below w.heap.size w w0 by rw [hw0]; exact (Below.refl _ _).alloc (Nat.le_refl _) _)
  have HS0 := Lib.hid (show w0.heap.size = w.heap.size + 1 by rw [hw0]; simp)
  rw [← hw0]
  clear hw0
  rw [← HS0.out]
  go_loopw [1, 6] (fun z s wr => z = .string ⟨l.toArray⟩ ∧ s = .slice (some ⟨w0.heap.size, 0, none⟩) 0 0 ∧ Below w0.heap.size w0 wr) (fun z _ _ => 0)
  case atStart => exact ⟨rfl, rfl, (Below.refl _ _).alloc (Nat.le_refl _) _⟩
  case round =>
    obtain ⟨rfl, rfl, hb⟩ := hrel
    have HB := Lib.hid hb
    clear hb
    have c0 := cellKeep HB.out E0.out
    have c1 := cellKeep HB.out E1.out
    have RA := Lib.hid (HA.out.below (T0.out.trans (HB.out.mono T0.out.size)))
    go_wp2_with fail
    refine (H1.out _ RA.out).mono ?_
    rintro e w1 ⟨rfl, hb⟩
    have B1 := Lib.hid (HB.out.trans (hb.mono HB.out.size))
    clear hb
    go_wp2_with fail
    go_ret2
    exact ⟨_, rfl, T0.out.trans ((B1.out.alloc B1.out.size _).mono T0.out.size)⟩
end Go.Proofs.Ytlohpphmamapeaa
