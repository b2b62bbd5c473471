/-
  No cell of these rows narrows 'for every input' (looked for: loops, veiled, ifaces, maps, wideKeys, modest, calm, conditions, laid).
  DERIVED. THE GIVEN ROWS OF THIS SEAT. 12 by the template 'for every input the law returns true; each argument reads behind the call as it read before'; 0 by the template 'total and deterministic' (their statements: YtgcmdebkgkepoaaTotals.lean).
  GIVEN WITH THE SEED: the statements are not yours to turn. If you find one false, say at which input.
  Laid BY PROGRAM, IN A SANDBOX (cutbox-rows.mjs): the forced cells as the released guide's own fill.sh prints them over the translation f427324ac94eb8a6… (all of the seat's roots in one cut). By AI agents, Wed Nov 11 2026. No macro, syntax, notation, axiom, sorry.
-/
import Derived.Test.YtgcmdebkgkepoaaChecked
import GoSem.Claim
import GoSem.ClaimJoined
import GoSem.ClaimMapViews
import Derived.JoinedTies
import Derived.KernelRfl
namespace Go.Proofs.Ytgcmdebkgkepoaa
/- THE CELL 'sum', in the pinned program and in every row, IS THE sha256 OF THE DUMP (.gsa) THAT YtgcmdebkgkepoaaProg.lean LOADS. Nothing in Lean hashes anything: it is a label: what it is worth is what the hold of that sum in a sandbox is worth. -/
noncomputable def Try.pinned : Pinned := { name := "ytgcmdebkgkepoaa", sum := "f427324ac94eb8a683a8010f61491e6de6570ff7a61f7cf07d9a06f7cae1fee9", checked := Try.checked }
namespace Rows
def none {H : Type} : Left H := { results := [], args := [] }

/-- 'laws.FnExactTableOk': WHATEVER THE INPUT: true; the input reads as it did. -/
def fnExactTableOkSpec : ChangeSpec := { name := "fnExactTableOk", fn := fun _ => fun
  | [d] => { results := [.lit (.bool true)], args := [d] }
  | _ => none }
def fnExactTableOkRow : OpenClaim := { program := "ytgcmdebkgkepoaa", sum := "f427324ac94eb8a683a8010f61491e6de6570ff7a61f7cf07d9a06f7cae1fee9", func := "loop.example/g03201/laws.FnExactTableOk", spec := "fnExactTableOk", unfollowed := true, recurses := true, apart := false }
def FnExactTableOkSaid : Prop := fnExactTableOkRow.holds Try.pinned (OpenSpec.ofChange fnExactTableOkSpec)

/-- ITS FALSE NEIGHBOUR: 'it returns false'. Refute it at one input. -/
def fnExactTableOkWrong : ChangeSpec := { name := "fnExactTableOk", fn := fun _ => fun
  | [d] => { results := [.lit (.bool false)], args := [d] }
  | _ => none }
def FnExactTableOkWrongFalsely : Prop := fnExactTableOkRow.holds Try.pinned (OpenSpec.ofChange fnExactTableOkWrong)

/-- 'laws.FnExactImagesOk': WHATEVER THE INPUT: true; the input reads as it did. -/
def fnExactImagesOkSpec : ChangeSpec := { name := "fnExactImagesOk", fn := fun _ => fun
  | [d1, d2] => { results := [.lit (.bool true)], args := [d1, d2] }
  | _ => none }
def fnExactImagesOkRow : OpenClaim := { program := "ytgcmdebkgkepoaa", sum := "f427324ac94eb8a683a8010f61491e6de6570ff7a61f7cf07d9a06f7cae1fee9", func := "loop.example/g03201/laws.FnExactImagesOk", spec := "fnExactImagesOk", unfollowed := true, recurses := true, apart := false }
def FnExactImagesOkSaid : Prop := fnExactImagesOkRow.holds Try.pinned (OpenSpec.ofChange fnExactImagesOkSpec)

/-- ITS FALSE NEIGHBOUR: 'it returns false'. Refute it at one input. -/
def fnExactImagesOkWrong : ChangeSpec := { name := "fnExactImagesOk", fn := fun _ => fun
  | [d1, d2] => { results := [.lit (.bool false)], args := [d1, d2] }
  | _ => none }
def FnExactImagesOkWrongFalsely : Prop := fnExactImagesOkRow.holds Try.pinned (OpenSpec.ofChange fnExactImagesOkWrong)

/-- 'laws.FnExactIsCommutative': WHATEVER THE INPUT: true; the input reads as it did. -/
def fnExactIsCommutativeSpec : ChangeSpec := { name := "fnExactIsCommutative", fn := fun _ => fun
  | [d] => { results := [.lit (.bool true)], args := [d] }
  | _ => none }
def fnExactIsCommutativeRow : OpenClaim := { program := "ytgcmdebkgkepoaa", sum := "f427324ac94eb8a683a8010f61491e6de6570ff7a61f7cf07d9a06f7cae1fee9", func := "loop.example/g03201/laws.FnExactIsCommutative", spec := "fnExactIsCommutative", unfollowed := true, recurses := true, apart := false }
def FnExactIsCommutativeSaid : Prop := fnExactIsCommutativeRow.holds Try.pinned (OpenSpec.ofChange fnExactIsCommutativeSpec)

/-- ITS FALSE NEIGHBOUR: 'it returns false'. Refute it at one input. -/
def fnExactIsCommutativeWrong : ChangeSpec := { name := "fnExactIsCommutative", fn := fun _ => fun
  | [d] => { results := [.lit (.bool false)], args := [d] }
  | _ => none }
def FnExactIsCommutativeWrongFalsely : Prop := fnExactIsCommutativeRow.holds Try.pinned (OpenSpec.ofChange fnExactIsCommutativeWrong)

/-- 'laws.FnExactValueOf': WHATEVER THE INPUT: true; the input reads as it did. -/
def fnExactValueOfSpec : ChangeSpec := { name := "fnExactValueOf", fn := fun _ => fun
  | [d1, d2, d3] => { results := [.lit (.bool true)], args := [d1, d2, d3] }
  | _ => none }
def fnExactValueOfRow : OpenClaim := { program := "ytgcmdebkgkepoaa", sum := "f427324ac94eb8a683a8010f61491e6de6570ff7a61f7cf07d9a06f7cae1fee9", func := "loop.example/g03201/laws.FnExactValueOf", spec := "fnExactValueOf", unfollowed := true, recurses := true, apart := false }
def FnExactValueOfSaid : Prop := fnExactValueOfRow.holds Try.pinned (OpenSpec.ofChange fnExactValueOfSpec)

/-- ITS FALSE NEIGHBOUR: 'it returns false'. Refute it at one input. -/
def fnExactValueOfWrong : ChangeSpec := { name := "fnExactValueOf", fn := fun _ => fun
  | [d1, d2, d3] => { results := [.lit (.bool false)], args := [d1, d2, d3] }
  | _ => none }
def FnExactValueOfWrongFalsely : Prop := fnExactValueOfRow.holds Try.pinned (OpenSpec.ofChange fnExactValueOfWrong)

/-- 'laws.FnExactIdempotentsOf': WHATEVER THE INPUT: true; the input reads as it did. -/
def fnExactIdempotentsOfSpec : ChangeSpec := { name := "fnExactIdempotentsOf", fn := fun _ => fun
  | [d] => { results := [.lit (.bool true)], args := [d] }
  | _ => none }
def fnExactIdempotentsOfRow : OpenClaim := { program := "ytgcmdebkgkepoaa", sum := "f427324ac94eb8a683a8010f61491e6de6570ff7a61f7cf07d9a06f7cae1fee9", func := "loop.example/g03201/laws.FnExactIdempotentsOf", spec := "fnExactIdempotentsOf", unfollowed := true, recurses := true, apart := false }
def FnExactIdempotentsOfSaid : Prop := fnExactIdempotentsOfRow.holds Try.pinned (OpenSpec.ofChange fnExactIdempotentsOfSpec)

/-- ITS FALSE NEIGHBOUR: 'it returns false'. Refute it at one input. -/
def fnExactIdempotentsOfWrong : ChangeSpec := { name := "fnExactIdempotentsOf", fn := fun _ => fun
  | [d] => { results := [.lit (.bool false)], args := [d] }
  | _ => none }
def FnExactIdempotentsOfWrongFalsely : Prop := fnExactIdempotentsOfRow.holds Try.pinned (OpenSpec.ofChange fnExactIdempotentsOfWrong)

/-- 'laws.FnExactReachedBy': WHATEVER THE INPUT: true; the input reads as it did. -/
def fnExactReachedBySpec : ChangeSpec := { name := "fnExactReachedBy", fn := fun _ => fun
  | [d1, d2] => { results := [.lit (.bool true)], args := [d1, d2] }
  | _ => none }
def fnExactReachedByRow : OpenClaim := { program := "ytgcmdebkgkepoaa", sum := "f427324ac94eb8a683a8010f61491e6de6570ff7a61f7cf07d9a06f7cae1fee9", func := "loop.example/g03201/laws.FnExactReachedBy", spec := "fnExactReachedBy", unfollowed := true, recurses := true, apart := false }
def FnExactReachedBySaid : Prop := fnExactReachedByRow.holds Try.pinned (OpenSpec.ofChange fnExactReachedBySpec)

/-- ITS FALSE NEIGHBOUR: 'it returns false'. Refute it at one input. -/
def fnExactReachedByWrong : ChangeSpec := { name := "fnExactReachedBy", fn := fun _ => fun
  | [d1, d2] => { results := [.lit (.bool false)], args := [d1, d2] }
  | _ => none }
def FnExactReachedByWrongFalsely : Prop := fnExactReachedByRow.holds Try.pinned (OpenSpec.ofChange fnExactReachedByWrong)

/-- 'laws.FnExactSatisfiesRules': WHATEVER THE INPUT: true; the input reads as it did. -/
def fnExactSatisfiesRulesSpec : ChangeSpec := { name := "fnExactSatisfiesRules", fn := fun _ => fun
  | [d1, d2, d3] => { results := [.lit (.bool true)], args := [d1, d2, d3] }
  | _ => none }
def fnExactSatisfiesRulesRow : OpenClaim := { program := "ytgcmdebkgkepoaa", sum := "f427324ac94eb8a683a8010f61491e6de6570ff7a61f7cf07d9a06f7cae1fee9", func := "loop.example/g03201/laws.FnExactSatisfiesRules", spec := "fnExactSatisfiesRules", unfollowed := true, recurses := true, apart := false }
def FnExactSatisfiesRulesSaid : Prop := fnExactSatisfiesRulesRow.holds Try.pinned (OpenSpec.ofChange fnExactSatisfiesRulesSpec)

/-- ITS FALSE NEIGHBOUR: 'it returns false'. Refute it at one input. -/
def fnExactSatisfiesRulesWrong : ChangeSpec := { name := "fnExactSatisfiesRules", fn := fun _ => fun
  | [d1, d2, d3] => { results := [.lit (.bool false)], args := [d1, d2, d3] }
  | _ => none }
def FnExactSatisfiesRulesWrongFalsely : Prop := fnExactSatisfiesRulesRow.holds Try.pinned (OpenSpec.ofChange fnExactSatisfiesRulesWrong)

/-- 'laws.FnExactCountMaps': WHATEVER THE INPUT: true; the input reads as it did. -/
def fnExactCountMapsSpec : ChangeSpec := { name := "fnExactCountMaps", fn := fun _ => fun
  | [d1, d2] => { results := [.lit (.bool true)], args := [d1, d2] }
  | _ => none }
def fnExactCountMapsRow : OpenClaim := { program := "ytgcmdebkgkepoaa", sum := "f427324ac94eb8a683a8010f61491e6de6570ff7a61f7cf07d9a06f7cae1fee9", func := "loop.example/g03201/laws.FnExactCountMaps", spec := "fnExactCountMaps", unfollowed := true, recurses := true, apart := false }
def FnExactCountMapsSaid : Prop := fnExactCountMapsRow.holds Try.pinned (OpenSpec.ofChange fnExactCountMapsSpec)

/-- ITS FALSE NEIGHBOUR: 'it returns false'. Refute it at one input. -/
def fnExactCountMapsWrong : ChangeSpec := { name := "fnExactCountMaps", fn := fun _ => fun
  | [d1, d2] => { results := [.lit (.bool false)], args := [d1, d2] }
  | _ => none }
def FnExactCountMapsWrongFalsely : Prop := fnExactCountMapsRow.holds Try.pinned (OpenSpec.ofChange fnExactCountMapsWrong)

/-- 'laws.FnExactFirstMap': WHATEVER THE INPUT: true; the input reads as it did. -/
def fnExactFirstMapSpec : ChangeSpec := { name := "fnExactFirstMap", fn := fun _ => fun
  | [d1, d2] => { results := [.lit (.bool true)], args := [d1, d2] }
  | _ => none }
def fnExactFirstMapRow : OpenClaim := { program := "ytgcmdebkgkepoaa", sum := "f427324ac94eb8a683a8010f61491e6de6570ff7a61f7cf07d9a06f7cae1fee9", func := "loop.example/g03201/laws.FnExactFirstMap", spec := "fnExactFirstMap", unfollowed := true, recurses := true, apart := false }
def FnExactFirstMapSaid : Prop := fnExactFirstMapRow.holds Try.pinned (OpenSpec.ofChange fnExactFirstMapSpec)

/-- ITS FALSE NEIGHBOUR: 'it returns false'. Refute it at one input. -/
def fnExactFirstMapWrong : ChangeSpec := { name := "fnExactFirstMap", fn := fun _ => fun
  | [d1, d2] => { results := [.lit (.bool false)], args := [d1, d2] }
  | _ => none }
def FnExactFirstMapWrongFalsely : Prop := fnExactFirstMapRow.holds Try.pinned (OpenSpec.ofChange fnExactFirstMapWrong)

/-- 'laws.FnExactLeastIdeal': WHATEVER THE INPUT: true; the input reads as it did. -/
def fnExactLeastIdealSpec : ChangeSpec := { name := "fnExactLeastIdeal", fn := fun _ => fun
  | [d] => { results := [.lit (.bool true)], args := [d] }
  | _ => none }
def fnExactLeastIdealRow : OpenClaim := { program := "ytgcmdebkgkepoaa", sum := "f427324ac94eb8a683a8010f61491e6de6570ff7a61f7cf07d9a06f7cae1fee9", func := "loop.example/g03201/laws.FnExactLeastIdeal", spec := "fnExactLeastIdeal", unfollowed := true, recurses := true, apart := false }
def FnExactLeastIdealSaid : Prop := fnExactLeastIdealRow.holds Try.pinned (OpenSpec.ofChange fnExactLeastIdealSpec)

/-- ITS FALSE NEIGHBOUR: 'it returns false'. Refute it at one input. -/
def fnExactLeastIdealWrong : ChangeSpec := { name := "fnExactLeastIdeal", fn := fun _ => fun
  | [d] => { results := [.lit (.bool false)], args := [d] }
  | _ => none }
def FnExactLeastIdealWrongFalsely : Prop := fnExactLeastIdealRow.holds Try.pinned (OpenSpec.ofChange fnExactLeastIdealWrong)

/-- 'laws.FnExactClassesOf': WHATEVER THE INPUT: true; the input reads as it did. -/
def fnExactClassesOfSpec : ChangeSpec := { name := "fnExactClassesOf", fn := fun _ => fun
  | [d1, d2] => { results := [.lit (.bool true)], args := [d1, d2] }
  | _ => none }
def fnExactClassesOfRow : OpenClaim := { program := "ytgcmdebkgkepoaa", sum := "f427324ac94eb8a683a8010f61491e6de6570ff7a61f7cf07d9a06f7cae1fee9", func := "loop.example/g03201/laws.FnExactClassesOf", spec := "fnExactClassesOf", unfollowed := true, recurses := true, apart := false }
def FnExactClassesOfSaid : Prop := fnExactClassesOfRow.holds Try.pinned (OpenSpec.ofChange fnExactClassesOfSpec)

/-- ITS FALSE NEIGHBOUR: 'it returns false'. Refute it at one input. -/
def fnExactClassesOfWrong : ChangeSpec := { name := "fnExactClassesOf", fn := fun _ => fun
  | [d1, d2] => { results := [.lit (.bool false)], args := [d1, d2] }
  | _ => none }
def FnExactClassesOfWrongFalsely : Prop := fnExactClassesOfRow.holds Try.pinned (OpenSpec.ofChange fnExactClassesOfWrong)

/-- 'laws.FnExactCountClasses': WHATEVER THE INPUT: true; the input reads as it did. -/
def fnExactCountClassesSpec : ChangeSpec := { name := "fnExactCountClasses", fn := fun _ => fun
  | [d1, d2] => { results := [.lit (.bool true)], args := [d1, d2] }
  | _ => none }
def fnExactCountClassesRow : OpenClaim := { program := "ytgcmdebkgkepoaa", sum := "f427324ac94eb8a683a8010f61491e6de6570ff7a61f7cf07d9a06f7cae1fee9", func := "loop.example/g03201/laws.FnExactCountClasses", spec := "fnExactCountClasses", unfollowed := true, recurses := true, apart := false }
def FnExactCountClassesSaid : Prop := fnExactCountClassesRow.holds Try.pinned (OpenSpec.ofChange fnExactCountClassesSpec)

/-- ITS FALSE NEIGHBOUR: 'it returns false'. Refute it at one input. -/
def fnExactCountClassesWrong : ChangeSpec := { name := "fnExactCountClasses", fn := fun _ => fun
  | [d1, d2] => { results := [.lit (.bool false)], args := [d1, d2] }
  | _ => none }
def FnExactCountClassesWrongFalsely : Prop := fnExactCountClassesRow.holds Try.pinned (OpenSpec.ofChange fnExactCountClassesWrong)

/- THE SECOND FORM. 'bulk': how many values and letters a reading holds, each counted each time it is reached (what is shared counts as often as it is met; a slice's spare places count too). A statement '..UptoSaid' is the law's where the arguments, and the package variables that the reading takes, are together of bulk at most 1048576: NARROWER than '..Said'. Prove '..Said' where nothing that the law and all that it calls make is longer than what came in: it says more and counts as full. Else prove '..UptoSaid'. A law counts once. -/
mutual
def uptoBulk {H : Type} : DataW H → Nat
  | .lit (.string bytes) => bytes.length + 1
  | .lit _ => 1
  | .nil => 1
  | .ptr d => uptoBulk d + 1
  | .slice elems spare => uptoBulkAll elems + uptoBulkAll spare + 1
  | .agg parts => uptoBulkAll parts + 1
  | .iface _ d => uptoBulk d + 1
  | .map entries => uptoBulkEntries entries + 1
  | .held _ => 1
def uptoBulkAll {H : Type} : List (DataW H) → Nat
  | [] => 0
  | d :: r => uptoBulk d + uptoBulkAll r
def uptoBulkEntries {H : Type} : List (Lit × DataW H) → Nat
  | [] => 0
  | x :: r => uptoBulkEntry x + uptoBulkEntries r
def uptoBulkEntry {H : Type} : Lit × DataW H → Nat
  | (.string bytes, d) => bytes.length + uptoBulk d + 1
  | (_, d) => uptoBulk d + 1
 end
def uptoSmall : (H : Type) → List (DataW H) → Bool := fun _ ds => decide (uptoBulkAll ds ≤ 1048576)
def OpenSpec.upto (s : _root_.Go.ChangeSpec) : _root_.Go.OpenSpec := { _root_.Go.OpenSpec.ofChange s with cond := some uptoSmall }

/-- 'laws.FnExactTableOk', WHERE WHAT IT READS IS OF BULK AT MOST 1048576: true; the input reads as it did. -/
def fnExactTableOkUptoRow : OpenClaim := { program := "ytgcmdebkgkepoaa", sum := "f427324ac94eb8a683a8010f61491e6de6570ff7a61f7cf07d9a06f7cae1fee9", func := "loop.example/g03201/laws.FnExactTableOk", spec := "fnExactTableOk", unfollowed := true, recurses := true, apart := false, narrowed := true }
def FnExactTableOkUptoSaid : Prop := fnExactTableOkUptoRow.holds Try.pinned (OpenSpec.upto fnExactTableOkSpec)

/-- 'laws.FnExactImagesOk', WHERE WHAT IT READS IS OF BULK AT MOST 1048576: true; the input reads as it did. -/
def fnExactImagesOkUptoRow : OpenClaim := { program := "ytgcmdebkgkepoaa", sum := "f427324ac94eb8a683a8010f61491e6de6570ff7a61f7cf07d9a06f7cae1fee9", func := "loop.example/g03201/laws.FnExactImagesOk", spec := "fnExactImagesOk", unfollowed := true, recurses := true, apart := false, narrowed := true }
def FnExactImagesOkUptoSaid : Prop := fnExactImagesOkUptoRow.holds Try.pinned (OpenSpec.upto fnExactImagesOkSpec)

/-- 'laws.FnExactIsCommutative', WHERE WHAT IT READS IS OF BULK AT MOST 1048576: true; the input reads as it did. -/
def fnExactIsCommutativeUptoRow : OpenClaim := { program := "ytgcmdebkgkepoaa", sum := "f427324ac94eb8a683a8010f61491e6de6570ff7a61f7cf07d9a06f7cae1fee9", func := "loop.example/g03201/laws.FnExactIsCommutative", spec := "fnExactIsCommutative", unfollowed := true, recurses := true, apart := false, narrowed := true }
def FnExactIsCommutativeUptoSaid : Prop := fnExactIsCommutativeUptoRow.holds Try.pinned (OpenSpec.upto fnExactIsCommutativeSpec)

/-- 'laws.FnExactValueOf', WHERE WHAT IT READS IS OF BULK AT MOST 1048576: true; the input reads as it did. -/
def fnExactValueOfUptoRow : OpenClaim := { program := "ytgcmdebkgkepoaa", sum := "f427324ac94eb8a683a8010f61491e6de6570ff7a61f7cf07d9a06f7cae1fee9", func := "loop.example/g03201/laws.FnExactValueOf", spec := "fnExactValueOf", unfollowed := true, recurses := true, apart := false, narrowed := true }
def FnExactValueOfUptoSaid : Prop := fnExactValueOfUptoRow.holds Try.pinned (OpenSpec.upto fnExactValueOfSpec)

/-- 'laws.FnExactIdempotentsOf', WHERE WHAT IT READS IS OF BULK AT MOST 1048576: true; the input reads as it did. -/
def fnExactIdempotentsOfUptoRow : OpenClaim := { program := "ytgcmdebkgkepoaa", sum := "f427324ac94eb8a683a8010f61491e6de6570ff7a61f7cf07d9a06f7cae1fee9", func := "loop.example/g03201/laws.FnExactIdempotentsOf", spec := "fnExactIdempotentsOf", unfollowed := true, recurses := true, apart := false, narrowed := true }
def FnExactIdempotentsOfUptoSaid : Prop := fnExactIdempotentsOfUptoRow.holds Try.pinned (OpenSpec.upto fnExactIdempotentsOfSpec)

/-- 'laws.FnExactReachedBy', WHERE WHAT IT READS IS OF BULK AT MOST 1048576: true; the input reads as it did. -/
def fnExactReachedByUptoRow : OpenClaim := { program := "ytgcmdebkgkepoaa", sum := "f427324ac94eb8a683a8010f61491e6de6570ff7a61f7cf07d9a06f7cae1fee9", func := "loop.example/g03201/laws.FnExactReachedBy", spec := "fnExactReachedBy", unfollowed := true, recurses := true, apart := false, narrowed := true }
def FnExactReachedByUptoSaid : Prop := fnExactReachedByUptoRow.holds Try.pinned (OpenSpec.upto fnExactReachedBySpec)

/-- 'laws.FnExactSatisfiesRules', WHERE WHAT IT READS IS OF BULK AT MOST 1048576: true; the input reads as it did. -/
def fnExactSatisfiesRulesUptoRow : OpenClaim := { program := "ytgcmdebkgkepoaa", sum := "f427324ac94eb8a683a8010f61491e6de6570ff7a61f7cf07d9a06f7cae1fee9", func := "loop.example/g03201/laws.FnExactSatisfiesRules", spec := "fnExactSatisfiesRules", unfollowed := true, recurses := true, apart := false, narrowed := true }
def FnExactSatisfiesRulesUptoSaid : Prop := fnExactSatisfiesRulesUptoRow.holds Try.pinned (OpenSpec.upto fnExactSatisfiesRulesSpec)

/-- 'laws.FnExactCountMaps', WHERE WHAT IT READS IS OF BULK AT MOST 1048576: true; the input reads as it did. -/
def fnExactCountMapsUptoRow : OpenClaim := { program := "ytgcmdebkgkepoaa", sum := "f427324ac94eb8a683a8010f61491e6de6570ff7a61f7cf07d9a06f7cae1fee9", func := "loop.example/g03201/laws.FnExactCountMaps", spec := "fnExactCountMaps", unfollowed := true, recurses := true, apart := false, narrowed := true }
def FnExactCountMapsUptoSaid : Prop := fnExactCountMapsUptoRow.holds Try.pinned (OpenSpec.upto fnExactCountMapsSpec)

/-- 'laws.FnExactFirstMap', WHERE WHAT IT READS IS OF BULK AT MOST 1048576: true; the input reads as it did. -/
def fnExactFirstMapUptoRow : OpenClaim := { program := "ytgcmdebkgkepoaa", sum := "f427324ac94eb8a683a8010f61491e6de6570ff7a61f7cf07d9a06f7cae1fee9", func := "loop.example/g03201/laws.FnExactFirstMap", spec := "fnExactFirstMap", unfollowed := true, recurses := true, apart := false, narrowed := true }
def FnExactFirstMapUptoSaid : Prop := fnExactFirstMapUptoRow.holds Try.pinned (OpenSpec.upto fnExactFirstMapSpec)

/-- 'laws.FnExactLeastIdeal', WHERE WHAT IT READS IS OF BULK AT MOST 1048576: true; the input reads as it did. -/
def fnExactLeastIdealUptoRow : OpenClaim := { program := "ytgcmdebkgkepoaa", sum := "f427324ac94eb8a683a8010f61491e6de6570ff7a61f7cf07d9a06f7cae1fee9", func := "loop.example/g03201/laws.FnExactLeastIdeal", spec := "fnExactLeastIdeal", unfollowed := true, recurses := true, apart := false, narrowed := true }
def FnExactLeastIdealUptoSaid : Prop := fnExactLeastIdealUptoRow.holds Try.pinned (OpenSpec.upto fnExactLeastIdealSpec)

/-- 'laws.FnExactClassesOf', WHERE WHAT IT READS IS OF BULK AT MOST 1048576: true; the input reads as it did. -/
def fnExactClassesOfUptoRow : OpenClaim := { program := "ytgcmdebkgkepoaa", sum := "f427324ac94eb8a683a8010f61491e6de6570ff7a61f7cf07d9a06f7cae1fee9", func := "loop.example/g03201/laws.FnExactClassesOf", spec := "fnExactClassesOf", unfollowed := true, recurses := true, apart := false, narrowed := true }
def FnExactClassesOfUptoSaid : Prop := fnExactClassesOfUptoRow.holds Try.pinned (OpenSpec.upto fnExactClassesOfSpec)

/-- 'laws.FnExactCountClasses', WHERE WHAT IT READS IS OF BULK AT MOST 1048576: true; the input reads as it did. -/
def fnExactCountClassesUptoRow : OpenClaim := { program := "ytgcmdebkgkepoaa", sum := "f427324ac94eb8a683a8010f61491e6de6570ff7a61f7cf07d9a06f7cae1fee9", func := "loop.example/g03201/laws.FnExactCountClasses", spec := "fnExactCountClasses", unfollowed := true, recurses := true, apart := false, narrowed := true }
def FnExactCountClassesUptoSaid : Prop := fnExactCountClassesUptoRow.holds Try.pinned (OpenSpec.upto fnExactCountClassesSpec)

end Rows
end Go.Proofs.Ytgcmdebkgkepoaa
