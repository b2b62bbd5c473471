/-
  No cell of these rows narrows 'for every input' (looked for: loops, veiled, ifaces, maps, wideKeys, modest, calm, conditions, laid).
  DERIVED. THE GIVEN ROWS OF THIS SEAT. 11 by the template 'for every input the law returns true; each argument reads behind the call as it read before'; 0 by the template 'total and deterministic' (their statements: YtoijojdegohknaaTotals.lean).
  GIVEN WITH THE SEED: the statements are not yours to turn. If you find one false, say at which input.
  Laid BY PROGRAM, IN A SANDBOX (cutbox-rows.mjs): the forced cells as the released guide's own fill.sh prints them over the translation 62dd503da8213df0… (all of the seat's roots in one cut). By AI agents, Wed Nov 11 2026. No macro, syntax, notation, axiom, sorry.
-/
import Derived.Test.YtoijojdegohknaaChecked
import GoSem.Claim
import GoSem.ClaimJoined
import GoSem.ClaimMapViews
import Derived.JoinedTies
import Derived.KernelRfl
namespace Go.Proofs.Ytoijojdegohknaa
/- THE CELL 'sum', in the pinned program and in every row, IS THE sha256 OF THE DUMP (.gsa) THAT YtoijojdegohknaaProg.lean LOADS. Nothing in Lean hashes anything: it is a label: what it is worth is what the hold of that sum in a sandbox is worth. -/
noncomputable def Try.pinned : Pinned := { name := "ytoijojdegohknaa", sum := "62dd503da8213df0f7e9084b3f041df9c7dc2a349b27a65505cca8ae3bbf50ae", checked := Try.checked }
namespace Rows
def none {H : Type} : Left H := { results := [], args := [] }

/-- 'laws.FnExactStartWork': WHATEVER THE INPUT: true; the input reads as it did. -/
def fnExactStartWorkSpec : ChangeSpec := { name := "fnExactStartWork", fn := fun _ => fun
  | [d1, d2] => { results := [.lit (.bool true)], args := [d1, d2] }
  | _ => none }
def fnExactStartWorkRow : OpenClaim := { program := "ytoijojdegohknaa", sum := "62dd503da8213df0f7e9084b3f041df9c7dc2a349b27a65505cca8ae3bbf50ae", func := "loop.example/g03201/laws.FnExactStartWork", spec := "fnExactStartWork", unfollowed := true, recurses := true, apart := false }
def FnExactStartWorkSaid : Prop := fnExactStartWorkRow.holds Try.pinned (OpenSpec.ofChange fnExactStartWorkSpec)

/-- ITS FALSE NEIGHBOUR: 'it returns false'. Refute it at one input. -/
def fnExactStartWorkWrong : ChangeSpec := { name := "fnExactStartWork", fn := fun _ => fun
  | [d1, d2] => { results := [.lit (.bool false)], args := [d1, d2] }
  | _ => none }
def FnExactStartWorkWrongFalsely : Prop := fnExactStartWorkRow.holds Try.pinned (OpenSpec.ofChange fnExactStartWorkWrong)

/-- 'laws.FnExactWorkOk': WHATEVER THE INPUT: true; the input reads as it did. -/
def fnExactWorkOkSpec : ChangeSpec := { name := "fnExactWorkOk", fn := fun _ => fun
  | [d] => { results := [.lit (.bool true)], args := [d] }
  | _ => none }
def fnExactWorkOkRow : OpenClaim := { program := "ytoijojdegohknaa", sum := "62dd503da8213df0f7e9084b3f041df9c7dc2a349b27a65505cca8ae3bbf50ae", func := "loop.example/g03201/laws.FnExactWorkOk", spec := "fnExactWorkOk", unfollowed := true, recurses := true, apart := false }
def FnExactWorkOkSaid : Prop := fnExactWorkOkRow.holds Try.pinned (OpenSpec.ofChange fnExactWorkOkSpec)

/-- ITS FALSE NEIGHBOUR: 'it returns false'. Refute it at one input. -/
def fnExactWorkOkWrong : ChangeSpec := { name := "fnExactWorkOk", fn := fun _ => fun
  | [d] => { results := [.lit (.bool false)], args := [d] }
  | _ => none }
def FnExactWorkOkWrongFalsely : Prop := fnExactWorkOkRow.holds Try.pinned (OpenSpec.ofChange fnExactWorkOkWrong)

/-- 'laws.FnExactFirstStep': WHATEVER THE INPUT: true; the input reads as it did. -/
def fnExactFirstStepSpec : ChangeSpec := { name := "fnExactFirstStep", fn := fun _ => fun
  | [d1, d2] => { results := [.lit (.bool true)], args := [d1, d2] }
  | _ => none }
def fnExactFirstStepRow : OpenClaim := { program := "ytoijojdegohknaa", sum := "62dd503da8213df0f7e9084b3f041df9c7dc2a349b27a65505cca8ae3bbf50ae", func := "loop.example/g03201/laws.FnExactFirstStep", spec := "fnExactFirstStep", unfollowed := true, recurses := true, apart := false }
def FnExactFirstStepSaid : Prop := fnExactFirstStepRow.holds Try.pinned (OpenSpec.ofChange fnExactFirstStepSpec)

/-- ITS FALSE NEIGHBOUR: 'it returns false'. Refute it at one input. -/
def fnExactFirstStepWrong : ChangeSpec := { name := "fnExactFirstStep", fn := fun _ => fun
  | [d1, d2] => { results := [.lit (.bool false)], args := [d1, d2] }
  | _ => none }
def FnExactFirstStepWrongFalsely : Prop := fnExactFirstStepRow.holds Try.pinned (OpenSpec.ofChange fnExactFirstStepWrong)

/-- 'laws.FnExactLastStep': WHATEVER THE INPUT: true; the input reads as it did. -/
def fnExactLastStepSpec : ChangeSpec := { name := "fnExactLastStep", fn := fun _ => fun
  | [d1, d2] => { results := [.lit (.bool true)], args := [d1, d2] }
  | _ => none }
def fnExactLastStepRow : OpenClaim := { program := "ytoijojdegohknaa", sum := "62dd503da8213df0f7e9084b3f041df9c7dc2a349b27a65505cca8ae3bbf50ae", func := "loop.example/g03201/laws.FnExactLastStep", spec := "fnExactLastStep", unfollowed := true, recurses := true, apart := false }
def FnExactLastStepSaid : Prop := fnExactLastStepRow.holds Try.pinned (OpenSpec.ofChange fnExactLastStepSpec)

/-- ITS FALSE NEIGHBOUR: 'it returns false'. Refute it at one input. -/
def fnExactLastStepWrong : ChangeSpec := { name := "fnExactLastStep", fn := fun _ => fun
  | [d1, d2] => { results := [.lit (.bool false)], args := [d1, d2] }
  | _ => none }
def FnExactLastStepWrongFalsely : Prop := fnExactLastStepRow.holds Try.pinned (OpenSpec.ofChange fnExactLastStepWrong)

/-- 'laws.FnExactStepsOf': WHATEVER THE INPUT: true; the input reads as it did. -/
def fnExactStepsOfSpec : ChangeSpec := { name := "fnExactStepsOf", fn := fun _ => fun
  | [d1, d2] => { results := [.lit (.bool true)], args := [d1, d2] }
  | _ => none }
def fnExactStepsOfRow : OpenClaim := { program := "ytoijojdegohknaa", sum := "62dd503da8213df0f7e9084b3f041df9c7dc2a349b27a65505cca8ae3bbf50ae", func := "loop.example/g03201/laws.FnExactStepsOf", spec := "fnExactStepsOf", unfollowed := true, recurses := true, apart := false }
def FnExactStepsOfSaid : Prop := fnExactStepsOfRow.holds Try.pinned (OpenSpec.ofChange fnExactStepsOfSpec)

/-- ITS FALSE NEIGHBOUR: 'it returns false'. Refute it at one input. -/
def fnExactStepsOfWrong : ChangeSpec := { name := "fnExactStepsOf", fn := fun _ => fun
  | [d1, d2] => { results := [.lit (.bool false)], args := [d1, d2] }
  | _ => none }
def FnExactStepsOfWrongFalsely : Prop := fnExactStepsOfRow.holds Try.pinned (OpenSpec.ofChange fnExactStepsOfWrong)

/-- 'laws.FnExactApplyStep': WHATEVER THE INPUT: true; the input reads as it did. -/
def fnExactApplyStepSpec : ChangeSpec := { name := "fnExactApplyStep", fn := fun _ => fun
  | [d1, d2, d3] => { results := [.lit (.bool true)], args := [d1, d2, d3] }
  | _ => none }
def fnExactApplyStepRow : OpenClaim := { program := "ytoijojdegohknaa", sum := "62dd503da8213df0f7e9084b3f041df9c7dc2a349b27a65505cca8ae3bbf50ae", func := "loop.example/g03201/laws.FnExactApplyStep", spec := "fnExactApplyStep", unfollowed := true, recurses := true, apart := false }
def FnExactApplyStepSaid : Prop := fnExactApplyStepRow.holds Try.pinned (OpenSpec.ofChange fnExactApplyStepSpec)

/-- ITS FALSE NEIGHBOUR: 'it returns false'. Refute it at one input. -/
def fnExactApplyStepWrong : ChangeSpec := { name := "fnExactApplyStep", fn := fun _ => fun
  | [d1, d2, d3] => { results := [.lit (.bool false)], args := [d1, d2, d3] }
  | _ => none }
def FnExactApplyStepWrongFalsely : Prop := fnExactApplyStepRow.holds Try.pinned (OpenSpec.ofChange fnExactApplyStepWrong)

/-- 'laws.FnExactRunSteps': WHATEVER THE INPUT: true; the input reads as it did. -/
def fnExactRunStepsSpec : ChangeSpec := { name := "fnExactRunSteps", fn := fun _ => fun
  | [d1, d2, d3] => { results := [.lit (.bool true)], args := [d1, d2, d3] }
  | _ => none }
def fnExactRunStepsRow : OpenClaim := { program := "ytoijojdegohknaa", sum := "62dd503da8213df0f7e9084b3f041df9c7dc2a349b27a65505cca8ae3bbf50ae", func := "loop.example/g03201/laws.FnExactRunSteps", spec := "fnExactRunSteps", unfollowed := true, recurses := true, apart := false }
def FnExactRunStepsSaid : Prop := fnExactRunStepsRow.holds Try.pinned (OpenSpec.ofChange fnExactRunStepsSpec)

/-- ITS FALSE NEIGHBOUR: 'it returns false'. Refute it at one input. -/
def fnExactRunStepsWrong : ChangeSpec := { name := "fnExactRunSteps", fn := fun _ => fun
  | [d1, d2, d3] => { results := [.lit (.bool false)], args := [d1, d2, d3] }
  | _ => none }
def FnExactRunStepsWrongFalsely : Prop := fnExactRunStepsRow.holds Try.pinned (OpenSpec.ofChange fnExactRunStepsWrong)

/-- 'laws.FnExactMirrorSystem': WHATEVER THE INPUT: true; the input reads as it did. -/
def fnExactMirrorSystemSpec : ChangeSpec := { name := "fnExactMirrorSystem", fn := fun _ => fun
  | [d] => { results := [.lit (.bool true)], args := [d] }
  | _ => none }
def fnExactMirrorSystemRow : OpenClaim := { program := "ytoijojdegohknaa", sum := "62dd503da8213df0f7e9084b3f041df9c7dc2a349b27a65505cca8ae3bbf50ae", func := "loop.example/g03201/laws.FnExactMirrorSystem", spec := "fnExactMirrorSystem", unfollowed := true, recurses := true, apart := false }
def FnExactMirrorSystemSaid : Prop := fnExactMirrorSystemRow.holds Try.pinned (OpenSpec.ofChange fnExactMirrorSystemSpec)

/-- ITS FALSE NEIGHBOUR: 'it returns false'. Refute it at one input. -/
def fnExactMirrorSystemWrong : ChangeSpec := { name := "fnExactMirrorSystem", fn := fun _ => fun
  | [d] => { results := [.lit (.bool false)], args := [d] }
  | _ => none }
def FnExactMirrorSystemWrongFalsely : Prop := fnExactMirrorSystemRow.holds Try.pinned (OpenSpec.ofChange fnExactMirrorSystemWrong)

/-- 'laws.FnExactSidesOf': WHATEVER THE INPUT: true; the input reads as it did. -/
def fnExactSidesOfSpec : ChangeSpec := { name := "fnExactSidesOf", fn := fun _ => fun
  | [d1, d2] => { results := [.lit (.bool true)], args := [d1, d2] }
  | _ => none }
def fnExactSidesOfRow : OpenClaim := { program := "ytoijojdegohknaa", sum := "62dd503da8213df0f7e9084b3f041df9c7dc2a349b27a65505cca8ae3bbf50ae", func := "loop.example/g03201/laws.FnExactSidesOf", spec := "fnExactSidesOf", unfollowed := true, recurses := true, apart := false }
def FnExactSidesOfSaid : Prop := fnExactSidesOfRow.holds Try.pinned (OpenSpec.ofChange fnExactSidesOfSpec)

/-- ITS FALSE NEIGHBOUR: 'it returns false'. Refute it at one input. -/
def fnExactSidesOfWrong : ChangeSpec := { name := "fnExactSidesOf", fn := fun _ => fun
  | [d1, d2] => { results := [.lit (.bool false)], args := [d1, d2] }
  | _ => none }
def FnExactSidesOfWrongFalsely : Prop := fnExactSidesOfRow.holds Try.pinned (OpenSpec.ofChange fnExactSidesOfWrong)

/-- 'laws.FnExactIsInterreduced': WHATEVER THE INPUT: true; the input reads as it did. -/
def fnExactIsInterreducedSpec : ChangeSpec := { name := "fnExactIsInterreduced", fn := fun _ => fun
  | [d] => { results := [.lit (.bool true)], args := [d] }
  | _ => none }
def fnExactIsInterreducedRow : OpenClaim := { program := "ytoijojdegohknaa", sum := "62dd503da8213df0f7e9084b3f041df9c7dc2a349b27a65505cca8ae3bbf50ae", func := "loop.example/g03201/laws.FnExactIsInterreduced", spec := "fnExactIsInterreduced", inPlace := ["internal/bytealg.IndexByteString", "internal/bytealg.IndexString"], unfollowed := true, recurses := true, named := ["internal/bytealg.MaxLen"], apart := false }
def FnExactIsInterreducedSaid : Prop := fnExactIsInterreducedRow.holds Try.pinned (OpenSpec.ofChange fnExactIsInterreducedSpec)

/-- ITS FALSE NEIGHBOUR: 'it returns false'. Refute it at one input. -/
def fnExactIsInterreducedWrong : ChangeSpec := { name := "fnExactIsInterreduced", fn := fun _ => fun
  | [d] => { results := [.lit (.bool false)], args := [d] }
  | _ => none }
def FnExactIsInterreducedWrongFalsely : Prop := fnExactIsInterreducedRow.holds Try.pinned (OpenSpec.ofChange fnExactIsInterreducedWrong)

/-- 'laws.FnExactPairsOf': WHATEVER THE INPUT: true; the input reads as it did. -/
def fnExactPairsOfSpec : ChangeSpec := { name := "fnExactPairsOf", fn := fun _ => fun
  | [d] => { results := [.lit (.bool true)], args := [d] }
  | _ => none }
def fnExactPairsOfRow : OpenClaim := { program := "ytoijojdegohknaa", sum := "62dd503da8213df0f7e9084b3f041df9c7dc2a349b27a65505cca8ae3bbf50ae", func := "loop.example/g03201/laws.FnExactPairsOf", spec := "fnExactPairsOf", unfollowed := true, recurses := true, apart := false }
def FnExactPairsOfSaid : Prop := fnExactPairsOfRow.holds Try.pinned (OpenSpec.ofChange fnExactPairsOfSpec)

/-- ITS FALSE NEIGHBOUR: 'it returns false'. Refute it at one input. -/
def fnExactPairsOfWrong : ChangeSpec := { name := "fnExactPairsOf", fn := fun _ => fun
  | [d] => { results := [.lit (.bool false)], args := [d] }
  | _ => none }
def FnExactPairsOfWrongFalsely : Prop := fnExactPairsOfRow.holds Try.pinned (OpenSpec.ofChange fnExactPairsOfWrong)

/- THE SECOND FORM. 'bulk': how many values and letters a reading holds, each counted each time it is reached (what is shared counts as often as it is met; a slice's spare places count too). A statement '..UptoSaid' is the law's where the arguments, and the package variables that the reading takes, are together of bulk at most 1048576: NARROWER than '..Said'. Prove '..Said' where nothing that the law and all that it calls make is longer than what came in: it says more and counts as full. Else prove '..UptoSaid'. A law counts once. -/
mutual
def uptoBulk {H : Type} : DataW H → Nat
  | .lit (.string bytes) => bytes.length + 1
  | .lit _ => 1
  | .nil => 1
  | .ptr d => uptoBulk d + 1
  | .slice elems spare => uptoBulkAll elems + uptoBulkAll spare + 1
  | .agg parts => uptoBulkAll parts + 1
  | .iface _ d => uptoBulk d + 1
  | .map entries => uptoBulkEntries entries + 1
  | .held _ => 1
def uptoBulkAll {H : Type} : List (DataW H) → Nat
  | [] => 0
  | d :: r => uptoBulk d + uptoBulkAll r
def uptoBulkEntries {H : Type} : List (Lit × DataW H) → Nat
  | [] => 0
  | x :: r => uptoBulkEntry x + uptoBulkEntries r
def uptoBulkEntry {H : Type} : Lit × DataW H → Nat
  | (.string bytes, d) => bytes.length + uptoBulk d + 1
  | (_, d) => uptoBulk d + 1
 end
def uptoSmall : (H : Type) → List (DataW H) → Bool := fun _ ds => decide (uptoBulkAll ds ≤ 1048576)
def OpenSpec.upto (s : _root_.Go.ChangeSpec) : _root_.Go.OpenSpec := { _root_.Go.OpenSpec.ofChange s with cond := some uptoSmall }

/-- 'laws.FnExactStartWork', WHERE WHAT IT READS IS OF BULK AT MOST 1048576: true; the input reads as it did. -/
def fnExactStartWorkUptoRow : OpenClaim := { program := "ytoijojdegohknaa", sum := "62dd503da8213df0f7e9084b3f041df9c7dc2a349b27a65505cca8ae3bbf50ae", func := "loop.example/g03201/laws.FnExactStartWork", spec := "fnExactStartWork", unfollowed := true, recurses := true, apart := false, narrowed := true }
def FnExactStartWorkUptoSaid : Prop := fnExactStartWorkUptoRow.holds Try.pinned (OpenSpec.upto fnExactStartWorkSpec)

/-- 'laws.FnExactWorkOk', WHERE WHAT IT READS IS OF BULK AT MOST 1048576: true; the input reads as it did. -/
def fnExactWorkOkUptoRow : OpenClaim := { program := "ytoijojdegohknaa", sum := "62dd503da8213df0f7e9084b3f041df9c7dc2a349b27a65505cca8ae3bbf50ae", func := "loop.example/g03201/laws.FnExactWorkOk", spec := "fnExactWorkOk", unfollowed := true, recurses := true, apart := false, narrowed := true }
def FnExactWorkOkUptoSaid : Prop := fnExactWorkOkUptoRow.holds Try.pinned (OpenSpec.upto fnExactWorkOkSpec)

/-- 'laws.FnExactFirstStep', WHERE WHAT IT READS IS OF BULK AT MOST 1048576: true; the input reads as it did. -/
def fnExactFirstStepUptoRow : OpenClaim := { program := "ytoijojdegohknaa", sum := "62dd503da8213df0f7e9084b3f041df9c7dc2a349b27a65505cca8ae3bbf50ae", func := "loop.example/g03201/laws.FnExactFirstStep", spec := "fnExactFirstStep", unfollowed := true, recurses := true, apart := false, narrowed := true }
def FnExactFirstStepUptoSaid : Prop := fnExactFirstStepUptoRow.holds Try.pinned (OpenSpec.upto fnExactFirstStepSpec)

/-- 'laws.FnExactLastStep', WHERE WHAT IT READS IS OF BULK AT MOST 1048576: true; the input reads as it did. -/
def fnExactLastStepUptoRow : OpenClaim := { program := "ytoijojdegohknaa", sum := "62dd503da8213df0f7e9084b3f041df9c7dc2a349b27a65505cca8ae3bbf50ae", func := "loop.example/g03201/laws.FnExactLastStep", spec := "fnExactLastStep", unfollowed := true, recurses := true, apart := false, narrowed := true }
def FnExactLastStepUptoSaid : Prop := fnExactLastStepUptoRow.holds Try.pinned (OpenSpec.upto fnExactLastStepSpec)

/-- 'laws.FnExactStepsOf', WHERE WHAT IT READS IS OF BULK AT MOST 1048576: true; the input reads as it did. -/
def fnExactStepsOfUptoRow : OpenClaim := { program := "ytoijojdegohknaa", sum := "62dd503da8213df0f7e9084b3f041df9c7dc2a349b27a65505cca8ae3bbf50ae", func := "loop.example/g03201/laws.FnExactStepsOf", spec := "fnExactStepsOf", unfollowed := true, recurses := true, apart := false, narrowed := true }
def FnExactStepsOfUptoSaid : Prop := fnExactStepsOfUptoRow.holds Try.pinned (OpenSpec.upto fnExactStepsOfSpec)

/-- 'laws.FnExactApplyStep', WHERE WHAT IT READS IS OF BULK AT MOST 1048576: true; the input reads as it did. -/
def fnExactApplyStepUptoRow : OpenClaim := { program := "ytoijojdegohknaa", sum := "62dd503da8213df0f7e9084b3f041df9c7dc2a349b27a65505cca8ae3bbf50ae", func := "loop.example/g03201/laws.FnExactApplyStep", spec := "fnExactApplyStep", unfollowed := true, recurses := true, apart := false, narrowed := true }
def FnExactApplyStepUptoSaid : Prop := fnExactApplyStepUptoRow.holds Try.pinned (OpenSpec.upto fnExactApplyStepSpec)

/-- 'laws.FnExactRunSteps', WHERE WHAT IT READS IS OF BULK AT MOST 1048576: true; the input reads as it did. -/
def fnExactRunStepsUptoRow : OpenClaim := { program := "ytoijojdegohknaa", sum := "62dd503da8213df0f7e9084b3f041df9c7dc2a349b27a65505cca8ae3bbf50ae", func := "loop.example/g03201/laws.FnExactRunSteps", spec := "fnExactRunSteps", unfollowed := true, recurses := true, apart := false, narrowed := true }
def FnExactRunStepsUptoSaid : Prop := fnExactRunStepsUptoRow.holds Try.pinned (OpenSpec.upto fnExactRunStepsSpec)

/-- 'laws.FnExactMirrorSystem', WHERE WHAT IT READS IS OF BULK AT MOST 1048576: true; the input reads as it did. -/
def fnExactMirrorSystemUptoRow : OpenClaim := { program := "ytoijojdegohknaa", sum := "62dd503da8213df0f7e9084b3f041df9c7dc2a349b27a65505cca8ae3bbf50ae", func := "loop.example/g03201/laws.FnExactMirrorSystem", spec := "fnExactMirrorSystem", unfollowed := true, recurses := true, apart := false, narrowed := true }
def FnExactMirrorSystemUptoSaid : Prop := fnExactMirrorSystemUptoRow.holds Try.pinned (OpenSpec.upto fnExactMirrorSystemSpec)

/-- 'laws.FnExactSidesOf', WHERE WHAT IT READS IS OF BULK AT MOST 1048576: true; the input reads as it did. -/
def fnExactSidesOfUptoRow : OpenClaim := { program := "ytoijojdegohknaa", sum := "62dd503da8213df0f7e9084b3f041df9c7dc2a349b27a65505cca8ae3bbf50ae", func := "loop.example/g03201/laws.FnExactSidesOf", spec := "fnExactSidesOf", unfollowed := true, recurses := true, apart := false, narrowed := true }
def FnExactSidesOfUptoSaid : Prop := fnExactSidesOfUptoRow.holds Try.pinned (OpenSpec.upto fnExactSidesOfSpec)

/-- 'laws.FnExactIsInterreduced', WHERE WHAT IT READS IS OF BULK AT MOST 1048576: true; the input reads as it did. -/
def fnExactIsInterreducedUptoRow : OpenClaim := { program := "ytoijojdegohknaa", sum := "62dd503da8213df0f7e9084b3f041df9c7dc2a349b27a65505cca8ae3bbf50ae", func := "loop.example/g03201/laws.FnExactIsInterreduced", spec := "fnExactIsInterreduced", inPlace := ["internal/bytealg.IndexByteString", "internal/bytealg.IndexString"], unfollowed := true, recurses := true, named := ["internal/bytealg.MaxLen"], apart := false, narrowed := true }
def FnExactIsInterreducedUptoSaid : Prop := fnExactIsInterreducedUptoRow.holds Try.pinned (OpenSpec.upto fnExactIsInterreducedSpec)

/-- 'laws.FnExactPairsOf', WHERE WHAT IT READS IS OF BULK AT MOST 1048576: true; the input reads as it did. -/
def fnExactPairsOfUptoRow : OpenClaim := { program := "ytoijojdegohknaa", sum := "62dd503da8213df0f7e9084b3f041df9c7dc2a349b27a65505cca8ae3bbf50ae", func := "loop.example/g03201/laws.FnExactPairsOf", spec := "fnExactPairsOf", unfollowed := true, recurses := true, apart := false, narrowed := true }
def FnExactPairsOfUptoSaid : Prop := fnExactPairsOfUptoRow.holds Try.pinned (OpenSpec.upto fnExactPairsOfSpec)

end Rows
end Go.Proofs.Ytoijojdegohknaa
