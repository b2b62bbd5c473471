/-
  No cell of these rows narrows 'for every input' (looked for: loops, veiled, ifaces, maps, wideKeys, modest, calm, conditions, laid).
  DERIVED. THE GIVEN ROWS OF THIS SEAT. 11 by the template 'for every input the law returns true; each argument reads behind the call as it read before'; 0 by the template 'total and deterministic' (their statements: YtlohpphmamapeaaTotals.lean).
  GIVEN WITH THE SEED: the statements are not yours to turn. If you find one false, say at which input.
  Laid BY PROGRAM, IN A SANDBOX (cutbox-rows.mjs): the forced cells as the released guide's own fill.sh prints them over the translation dd50bda0b41bcb5d… (all of the seat's roots in one cut). By AI agents, Wed Nov 11 2026. No macro, syntax, notation, axiom, sorry.
-/
import Derived.Test.YtlohpphmamapeaaChecked
import GoSem.Claim
import GoSem.ClaimJoined
import GoSem.ClaimMapViews
import Derived.JoinedTies
import Derived.KernelRfl
namespace Go.Proofs.Ytlohpphmamapeaa
/- THE CELL 'sum', in the pinned program and in every row, IS THE sha256 OF THE DUMP (.gsa) THAT YtlohpphmamapeaaProg.lean LOADS. Nothing in Lean hashes anything: it is a label: what it is worth is what the hold of that sum in a sandbox is worth. -/
noncomputable def Try.pinned : Pinned := { name := "ytlohpphmamapeaa", sum := "dd50bda0b41bcb5d327cb2ed0591c6e40c6bbd04e159a50a9569100ba2f79240", checked := Try.checked }
namespace Rows
def none {H : Type} : Left H := { results := [], args := [] }

/-- 'laws.FnExactMirrorSystem': WHATEVER THE INPUT: true; the input reads as it did. -/
def fnExactMirrorSystemSpec : ChangeSpec := { name := "fnExactMirrorSystem", fn := fun _ => fun
  | [d] => { results := [.lit (.bool true)], args := [d] }
  | _ => none }
def fnExactMirrorSystemRow : OpenClaim := { program := "ytlohpphmamapeaa", sum := "dd50bda0b41bcb5d327cb2ed0591c6e40c6bbd04e159a50a9569100ba2f79240", func := "loop.example/g03201/laws.FnExactMirrorSystem", spec := "fnExactMirrorSystem", unfollowed := true, recurses := true, apart := false }
def FnExactMirrorSystemSaid : Prop := fnExactMirrorSystemRow.holds Try.pinned (OpenSpec.ofChange fnExactMirrorSystemSpec)

/-- ITS FALSE NEIGHBOUR: 'it returns false'. Refute it at one input. -/
def fnExactMirrorSystemWrong : ChangeSpec := { name := "fnExactMirrorSystem", fn := fun _ => fun
  | [d] => { results := [.lit (.bool false)], args := [d] }
  | _ => none }
def FnExactMirrorSystemWrongFalsely : Prop := fnExactMirrorSystemRow.holds Try.pinned (OpenSpec.ofChange fnExactMirrorSystemWrong)

/-- 'laws.FnExactReachedBy': WHATEVER THE INPUT: true; the input reads as it did. -/
def fnExactReachedBySpec : ChangeSpec := { name := "fnExactReachedBy", fn := fun _ => fun
  | [d1, d2] => { results := [.lit (.bool true)], args := [d1, d2] }
  | _ => none }
def fnExactReachedByRow : OpenClaim := { program := "ytlohpphmamapeaa", sum := "dd50bda0b41bcb5d327cb2ed0591c6e40c6bbd04e159a50a9569100ba2f79240", func := "loop.example/g03201/laws.FnExactReachedBy", spec := "fnExactReachedBy", unfollowed := true, recurses := true, apart := false }
def FnExactReachedBySaid : Prop := fnExactReachedByRow.holds Try.pinned (OpenSpec.ofChange fnExactReachedBySpec)

/-- ITS FALSE NEIGHBOUR: 'it returns false'. Refute it at one input. -/
def fnExactReachedByWrong : ChangeSpec := { name := "fnExactReachedBy", fn := fun _ => fun
  | [d1, d2] => { results := [.lit (.bool false)], args := [d1, d2] }
  | _ => none }
def FnExactReachedByWrongFalsely : Prop := fnExactReachedByRow.holds Try.pinned (OpenSpec.ofChange fnExactReachedByWrong)

/-- 'laws.FnExactCountMaps': WHATEVER THE INPUT: true; the input reads as it did. -/
def fnExactCountMapsSpec : ChangeSpec := { name := "fnExactCountMaps", fn := fun _ => fun
  | [d1, d2] => { results := [.lit (.bool true)], args := [d1, d2] }
  | _ => none }
def fnExactCountMapsRow : OpenClaim := { program := "ytlohpphmamapeaa", sum := "dd50bda0b41bcb5d327cb2ed0591c6e40c6bbd04e159a50a9569100ba2f79240", func := "loop.example/g03201/laws.FnExactCountMaps", spec := "fnExactCountMaps", unfollowed := true, recurses := true, apart := false }
def FnExactCountMapsSaid : Prop := fnExactCountMapsRow.holds Try.pinned (OpenSpec.ofChange fnExactCountMapsSpec)

/-- ITS FALSE NEIGHBOUR: 'it returns false'. Refute it at one input. -/
def fnExactCountMapsWrong : ChangeSpec := { name := "fnExactCountMaps", fn := fun _ => fun
  | [d1, d2] => { results := [.lit (.bool false)], args := [d1, d2] }
  | _ => none }
def FnExactCountMapsWrongFalsely : Prop := fnExactCountMapsRow.holds Try.pinned (OpenSpec.ofChange fnExactCountMapsWrong)

/-- 'laws.FnExactFirstMap': WHATEVER THE INPUT: true; the input reads as it did. -/
def fnExactFirstMapSpec : ChangeSpec := { name := "fnExactFirstMap", fn := fun _ => fun
  | [d1, d2] => { results := [.lit (.bool true)], args := [d1, d2] }
  | _ => none }
def fnExactFirstMapRow : OpenClaim := { program := "ytlohpphmamapeaa", sum := "dd50bda0b41bcb5d327cb2ed0591c6e40c6bbd04e159a50a9569100ba2f79240", func := "loop.example/g03201/laws.FnExactFirstMap", spec := "fnExactFirstMap", unfollowed := true, recurses := true, apart := false }
def FnExactFirstMapSaid : Prop := fnExactFirstMapRow.holds Try.pinned (OpenSpec.ofChange fnExactFirstMapSpec)

/-- ITS FALSE NEIGHBOUR: 'it returns false'. Refute it at one input. -/
def fnExactFirstMapWrong : ChangeSpec := { name := "fnExactFirstMap", fn := fun _ => fun
  | [d1, d2] => { results := [.lit (.bool false)], args := [d1, d2] }
  | _ => none }
def FnExactFirstMapWrongFalsely : Prop := fnExactFirstMapRow.holds Try.pinned (OpenSpec.ofChange fnExactFirstMapWrong)

/-- 'laws.FnExactLeastIdeal': WHATEVER THE INPUT: true; the input reads as it did. -/
def fnExactLeastIdealSpec : ChangeSpec := { name := "fnExactLeastIdeal", fn := fun _ => fun
  | [d] => { results := [.lit (.bool true)], args := [d] }
  | _ => none }
def fnExactLeastIdealRow : OpenClaim := { program := "ytlohpphmamapeaa", sum := "dd50bda0b41bcb5d327cb2ed0591c6e40c6bbd04e159a50a9569100ba2f79240", func := "loop.example/g03201/laws.FnExactLeastIdeal", spec := "fnExactLeastIdeal", unfollowed := true, recurses := true, apart := false }
def FnExactLeastIdealSaid : Prop := fnExactLeastIdealRow.holds Try.pinned (OpenSpec.ofChange fnExactLeastIdealSpec)

/-- ITS FALSE NEIGHBOUR: 'it returns false'. Refute it at one input. -/
def fnExactLeastIdealWrong : ChangeSpec := { name := "fnExactLeastIdeal", fn := fun _ => fun
  | [d] => { results := [.lit (.bool false)], args := [d] }
  | _ => none }
def FnExactLeastIdealWrongFalsely : Prop := fnExactLeastIdealRow.holds Try.pinned (OpenSpec.ofChange fnExactLeastIdealWrong)

/-- 'laws.FnExactClassesOf': WHATEVER THE INPUT: true; the input reads as it did. -/
def fnExactClassesOfSpec : ChangeSpec := { name := "fnExactClassesOf", fn := fun _ => fun
  | [d1, d2] => { results := [.lit (.bool true)], args := [d1, d2] }
  | _ => none }
def fnExactClassesOfRow : OpenClaim := { program := "ytlohpphmamapeaa", sum := "dd50bda0b41bcb5d327cb2ed0591c6e40c6bbd04e159a50a9569100ba2f79240", func := "loop.example/g03201/laws.FnExactClassesOf", spec := "fnExactClassesOf", unfollowed := true, recurses := true, apart := false }
def FnExactClassesOfSaid : Prop := fnExactClassesOfRow.holds Try.pinned (OpenSpec.ofChange fnExactClassesOfSpec)

/-- ITS FALSE NEIGHBOUR: 'it returns false'. Refute it at one input. -/
def fnExactClassesOfWrong : ChangeSpec := { name := "fnExactClassesOf", fn := fun _ => fun
  | [d1, d2] => { results := [.lit (.bool false)], args := [d1, d2] }
  | _ => none }
def FnExactClassesOfWrongFalsely : Prop := fnExactClassesOfRow.holds Try.pinned (OpenSpec.ofChange fnExactClassesOfWrong)

/-- 'laws.FnExactCountClasses': WHATEVER THE INPUT: true; the input reads as it did. -/
def fnExactCountClassesSpec : ChangeSpec := { name := "fnExactCountClasses", fn := fun _ => fun
  | [d1, d2] => { results := [.lit (.bool true)], args := [d1, d2] }
  | _ => none }
def fnExactCountClassesRow : OpenClaim := { program := "ytlohpphmamapeaa", sum := "dd50bda0b41bcb5d327cb2ed0591c6e40c6bbd04e159a50a9569100ba2f79240", func := "loop.example/g03201/laws.FnExactCountClasses", spec := "fnExactCountClasses", unfollowed := true, recurses := true, apart := false }
def FnExactCountClassesSaid : Prop := fnExactCountClassesRow.holds Try.pinned (OpenSpec.ofChange fnExactCountClassesSpec)

/-- ITS FALSE NEIGHBOUR: 'it returns false'. Refute it at one input. -/
def fnExactCountClassesWrong : ChangeSpec := { name := "fnExactCountClasses", fn := fun _ => fun
  | [d1, d2] => { results := [.lit (.bool false)], args := [d1, d2] }
  | _ => none }
def FnExactCountClassesWrongFalsely : Prop := fnExactCountClassesRow.holds Try.pinned (OpenSpec.ofChange fnExactCountClassesWrong)

/-- 'laws.FnExactTurnWork': WHATEVER THE INPUT: true; the input reads as it did. -/
def fnExactTurnWorkSpec : ChangeSpec := { name := "fnExactTurnWork", fn := fun _ => fun
  | [d] => { results := [.lit (.bool true)], args := [d] }
  | _ => none }
def fnExactTurnWorkRow : OpenClaim := { program := "ytlohpphmamapeaa", sum := "dd50bda0b41bcb5d327cb2ed0591c6e40c6bbd04e159a50a9569100ba2f79240", func := "loop.example/g03201/laws.FnExactTurnWork", spec := "fnExactTurnWork", inPlace := ["internal/bytealg.IndexByteString", "internal/bytealg.IndexString"], unfollowed := true, recurses := true, named := ["internal/bytealg.MaxLen"], apart := false }
def FnExactTurnWorkSaid : Prop := fnExactTurnWorkRow.holds Try.pinned (OpenSpec.ofChange fnExactTurnWorkSpec)

/-- ITS FALSE NEIGHBOUR: 'it returns false'. Refute it at one input. -/
def fnExactTurnWorkWrong : ChangeSpec := { name := "fnExactTurnWork", fn := fun _ => fun
  | [d] => { results := [.lit (.bool false)], args := [d] }
  | _ => none }
def FnExactTurnWorkWrongFalsely : Prop := fnExactTurnWorkRow.holds Try.pinned (OpenSpec.ofChange fnExactTurnWorkWrong)

/-- 'laws.FnExactComplete': WHATEVER THE INPUT: true; the input reads as it did. -/
def fnExactCompleteSpec : ChangeSpec := { name := "fnExactComplete", fn := fun _ => fun
  | [d1, d2] => { results := [.lit (.bool true)], args := [d1, d2] }
  | _ => none }
def fnExactCompleteRow : OpenClaim := { program := "ytlohpphmamapeaa", sum := "dd50bda0b41bcb5d327cb2ed0591c6e40c6bbd04e159a50a9569100ba2f79240", func := "loop.example/g03201/laws.FnExactComplete", spec := "fnExactComplete", inPlace := ["internal/bytealg.IndexByteString", "internal/bytealg.IndexString"], unfollowed := true, recurses := true, named := ["internal/bytealg.MaxLen"], apart := false }
def FnExactCompleteSaid : Prop := fnExactCompleteRow.holds Try.pinned (OpenSpec.ofChange fnExactCompleteSpec)

/-- ITS FALSE NEIGHBOUR: 'it returns false'. Refute it at one input. -/
def fnExactCompleteWrong : ChangeSpec := { name := "fnExactComplete", fn := fun _ => fun
  | [d1, d2] => { results := [.lit (.bool false)], args := [d1, d2] }
  | _ => none }
def FnExactCompleteWrongFalsely : Prop := fnExactCompleteRow.holds Try.pinned (OpenSpec.ofChange fnExactCompleteWrong)

/-- 'laws.FnExactTurnsFor': WHATEVER THE INPUT: true; the input reads as it did. -/
def fnExactTurnsForSpec : ChangeSpec := { name := "fnExactTurnsFor", fn := fun _ => fun
  | [d1, d2] => { results := [.lit (.bool true)], args := [d1, d2] }
  | _ => none }
def fnExactTurnsForRow : OpenClaim := { program := "ytlohpphmamapeaa", sum := "dd50bda0b41bcb5d327cb2ed0591c6e40c6bbd04e159a50a9569100ba2f79240", func := "loop.example/g03201/laws.FnExactTurnsFor", spec := "fnExactTurnsFor", inPlace := ["internal/bytealg.IndexByteString", "internal/bytealg.IndexString"], unfollowed := true, recurses := true, named := ["internal/bytealg.MaxLen"], apart := false }
def FnExactTurnsForSaid : Prop := fnExactTurnsForRow.holds Try.pinned (OpenSpec.ofChange fnExactTurnsForSpec)

/-- ITS FALSE NEIGHBOUR: 'it returns false'. Refute it at one input. -/
def fnExactTurnsForWrong : ChangeSpec := { name := "fnExactTurnsFor", fn := fun _ => fun
  | [d1, d2] => { results := [.lit (.bool false)], args := [d1, d2] }
  | _ => none }
def FnExactTurnsForWrongFalsely : Prop := fnExactTurnsForRow.holds Try.pinned (OpenSpec.ofChange fnExactTurnsForWrong)

/-- 'laws.FnTurns': WHATEVER THE INPUT: true; the input reads as it did. -/
def fnTurnsSpec : ChangeSpec := { name := "fnTurns", fn := fun _ => fun
  | [d] => { results := [.lit (.bool true)], args := [d] }
  | _ => none }
def fnTurnsRow : OpenClaim := { program := "ytlohpphmamapeaa", sum := "dd50bda0b41bcb5d327cb2ed0591c6e40c6bbd04e159a50a9569100ba2f79240", func := "loop.example/g03201/laws.FnTurns", spec := "fnTurns", inPlace := ["internal/bytealg.IndexByteString", "internal/bytealg.IndexString"], unfollowed := true, recurses := true, named := ["internal/bytealg.MaxLen"], apart := false }
def FnTurnsSaid : Prop := fnTurnsRow.holds Try.pinned (OpenSpec.ofChange fnTurnsSpec)

/-- ITS FALSE NEIGHBOUR: 'it returns false'. Refute it at one input. -/
def fnTurnsWrong : ChangeSpec := { name := "fnTurns", fn := fun _ => fun
  | [d] => { results := [.lit (.bool false)], args := [d] }
  | _ => none }
def FnTurnsWrongFalsely : Prop := fnTurnsRow.holds Try.pinned (OpenSpec.ofChange fnTurnsWrong)

/- THE SECOND FORM. 'bulk': how many values and letters a reading holds, each counted each time it is reached (what is shared counts as often as it is met; a slice's spare places count too). A statement '..UptoSaid' is the law's where the arguments, and the package variables that the reading takes, are together of bulk at most 1048576: NARROWER than '..Said'. Prove '..Said' where nothing that the law and all that it calls make is longer than what came in: it says more and counts as full. Else prove '..UptoSaid'. A law counts once. -/
mutual
def uptoBulk {H : Type} : DataW H → Nat
  | .lit (.string bytes) => bytes.length + 1
  | .lit _ => 1
  | .nil => 1
  | .ptr d => uptoBulk d + 1
  | .slice elems spare => uptoBulkAll elems + uptoBulkAll spare + 1
  | .agg parts => uptoBulkAll parts + 1
  | .iface _ d => uptoBulk d + 1
  | .map entries => uptoBulkEntries entries + 1
  | .held _ => 1
def uptoBulkAll {H : Type} : List (DataW H) → Nat
  | [] => 0
  | d :: r => uptoBulk d + uptoBulkAll r
def uptoBulkEntries {H : Type} : List (Lit × DataW H) → Nat
  | [] => 0
  | x :: r => uptoBulkEntry x + uptoBulkEntries r
def uptoBulkEntry {H : Type} : Lit × DataW H → Nat
  | (.string bytes, d) => bytes.length + uptoBulk d + 1
  | (_, d) => uptoBulk d + 1
 end
def uptoSmall : (H : Type) → List (DataW H) → Bool := fun _ ds => decide (uptoBulkAll ds ≤ 1048576)
def OpenSpec.upto (s : _root_.Go.ChangeSpec) : _root_.Go.OpenSpec := { _root_.Go.OpenSpec.ofChange s with cond := some uptoSmall }

/-- 'laws.FnExactMirrorSystem', WHERE WHAT IT READS IS OF BULK AT MOST 1048576: true; the input reads as it did. -/
def fnExactMirrorSystemUptoRow : OpenClaim := { program := "ytlohpphmamapeaa", sum := "dd50bda0b41bcb5d327cb2ed0591c6e40c6bbd04e159a50a9569100ba2f79240", func := "loop.example/g03201/laws.FnExactMirrorSystem", spec := "fnExactMirrorSystem", unfollowed := true, recurses := true, apart := false, narrowed := true }
def FnExactMirrorSystemUptoSaid : Prop := fnExactMirrorSystemUptoRow.holds Try.pinned (OpenSpec.upto fnExactMirrorSystemSpec)

/-- 'laws.FnExactReachedBy', WHERE WHAT IT READS IS OF BULK AT MOST 1048576: true; the input reads as it did. -/
def fnExactReachedByUptoRow : OpenClaim := { program := "ytlohpphmamapeaa", sum := "dd50bda0b41bcb5d327cb2ed0591c6e40c6bbd04e159a50a9569100ba2f79240", func := "loop.example/g03201/laws.FnExactReachedBy", spec := "fnExactReachedBy", unfollowed := true, recurses := true, apart := false, narrowed := true }
def FnExactReachedByUptoSaid : Prop := fnExactReachedByUptoRow.holds Try.pinned (OpenSpec.upto fnExactReachedBySpec)

/-- 'laws.FnExactCountMaps', WHERE WHAT IT READS IS OF BULK AT MOST 1048576: true; the input reads as it did. -/
def fnExactCountMapsUptoRow : OpenClaim := { program := "ytlohpphmamapeaa", sum := "dd50bda0b41bcb5d327cb2ed0591c6e40c6bbd04e159a50a9569100ba2f79240", func := "loop.example/g03201/laws.FnExactCountMaps", spec := "fnExactCountMaps", unfollowed := true, recurses := true, apart := false, narrowed := true }
def FnExactCountMapsUptoSaid : Prop := fnExactCountMapsUptoRow.holds Try.pinned (OpenSpec.upto fnExactCountMapsSpec)

/-- 'laws.FnExactFirstMap', WHERE WHAT IT READS IS OF BULK AT MOST 1048576: true; the input reads as it did. -/
def fnExactFirstMapUptoRow : OpenClaim := { program := "ytlohpphmamapeaa", sum := "dd50bda0b41bcb5d327cb2ed0591c6e40c6bbd04e159a50a9569100ba2f79240", func := "loop.example/g03201/laws.FnExactFirstMap", spec := "fnExactFirstMap", unfollowed := true, recurses := true, apart := false, narrowed := true }
def FnExactFirstMapUptoSaid : Prop := fnExactFirstMapUptoRow.holds Try.pinned (OpenSpec.upto fnExactFirstMapSpec)

/-- 'laws.FnExactLeastIdeal', WHERE WHAT IT READS IS OF BULK AT MOST 1048576: true; the input reads as it did. -/
def fnExactLeastIdealUptoRow : OpenClaim := { program := "ytlohpphmamapeaa", sum := "dd50bda0b41bcb5d327cb2ed0591c6e40c6bbd04e159a50a9569100ba2f79240", func := "loop.example/g03201/laws.FnExactLeastIdeal", spec := "fnExactLeastIdeal", unfollowed := true, recurses := true, apart := false, narrowed := true }
def FnExactLeastIdealUptoSaid : Prop := fnExactLeastIdealUptoRow.holds Try.pinned (OpenSpec.upto fnExactLeastIdealSpec)

/-- 'laws.FnExactClassesOf', WHERE WHAT IT READS IS OF BULK AT MOST 1048576: true; the input reads as it did. -/
def fnExactClassesOfUptoRow : OpenClaim := { program := "ytlohpphmamapeaa", sum := "dd50bda0b41bcb5d327cb2ed0591c6e40c6bbd04e159a50a9569100ba2f79240", func := "loop.example/g03201/laws.FnExactClassesOf", spec := "fnExactClassesOf", unfollowed := true, recurses := true, apart := false, narrowed := true }
def FnExactClassesOfUptoSaid : Prop := fnExactClassesOfUptoRow.holds Try.pinned (OpenSpec.upto fnExactClassesOfSpec)

/-- 'laws.FnExactCountClasses', WHERE WHAT IT READS IS OF BULK AT MOST 1048576: true; the input reads as it did. -/
def fnExactCountClassesUptoRow : OpenClaim := { program := "ytlohpphmamapeaa", sum := "dd50bda0b41bcb5d327cb2ed0591c6e40c6bbd04e159a50a9569100ba2f79240", func := "loop.example/g03201/laws.FnExactCountClasses", spec := "fnExactCountClasses", unfollowed := true, recurses := true, apart := false, narrowed := true }
def FnExactCountClassesUptoSaid : Prop := fnExactCountClassesUptoRow.holds Try.pinned (OpenSpec.upto fnExactCountClassesSpec)

/-- 'laws.FnExactTurnWork', WHERE WHAT IT READS IS OF BULK AT MOST 1048576: true; the input reads as it did. -/
def fnExactTurnWorkUptoRow : OpenClaim := { program := "ytlohpphmamapeaa", sum := "dd50bda0b41bcb5d327cb2ed0591c6e40c6bbd04e159a50a9569100ba2f79240", func := "loop.example/g03201/laws.FnExactTurnWork", spec := "fnExactTurnWork", inPlace := ["internal/bytealg.IndexByteString", "internal/bytealg.IndexString"], unfollowed := true, recurses := true, named := ["internal/bytealg.MaxLen"], apart := false, narrowed := true }
def FnExactTurnWorkUptoSaid : Prop := fnExactTurnWorkUptoRow.holds Try.pinned (OpenSpec.upto fnExactTurnWorkSpec)

/-- 'laws.FnExactComplete', WHERE WHAT IT READS IS OF BULK AT MOST 1048576: true; the input reads as it did. -/
def fnExactCompleteUptoRow : OpenClaim := { program := "ytlohpphmamapeaa", sum := "dd50bda0b41bcb5d327cb2ed0591c6e40c6bbd04e159a50a9569100ba2f79240", func := "loop.example/g03201/laws.FnExactComplete", spec := "fnExactComplete", inPlace := ["internal/bytealg.IndexByteString", "internal/bytealg.IndexString"], unfollowed := true, recurses := true, named := ["internal/bytealg.MaxLen"], apart := false, narrowed := true }
def FnExactCompleteUptoSaid : Prop := fnExactCompleteUptoRow.holds Try.pinned (OpenSpec.upto fnExactCompleteSpec)

/-- 'laws.FnExactTurnsFor', WHERE WHAT IT READS IS OF BULK AT MOST 1048576: true; the input reads as it did. -/
def fnExactTurnsForUptoRow : OpenClaim := { program := "ytlohpphmamapeaa", sum := "dd50bda0b41bcb5d327cb2ed0591c6e40c6bbd04e159a50a9569100ba2f79240", func := "loop.example/g03201/laws.FnExactTurnsFor", spec := "fnExactTurnsFor", inPlace := ["internal/bytealg.IndexByteString", "internal/bytealg.IndexString"], unfollowed := true, recurses := true, named := ["internal/bytealg.MaxLen"], apart := false, narrowed := true }
def FnExactTurnsForUptoSaid : Prop := fnExactTurnsForUptoRow.holds Try.pinned (OpenSpec.upto fnExactTurnsForSpec)

/-- 'laws.FnTurns', WHERE WHAT IT READS IS OF BULK AT MOST 1048576: true; the input reads as it did. -/
def fnTurnsUptoRow : OpenClaim := { program := "ytlohpphmamapeaa", sum := "dd50bda0b41bcb5d327cb2ed0591c6e40c6bbd04e159a50a9569100ba2f79240", func := "loop.example/g03201/laws.FnTurns", spec := "fnTurns", inPlace := ["internal/bytealg.IndexByteString", "internal/bytealg.IndexString"], unfollowed := true, recurses := true, named := ["internal/bytealg.MaxLen"], apart := false, narrowed := true }
def FnTurnsUptoSaid : Prop := fnTurnsUptoRow.holds Try.pinned (OpenSpec.upto fnTurnsSpec)

end Rows
end Go.Proofs.Ytlohpphmamapeaa
