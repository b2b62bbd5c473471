/-
  No cell of these rows narrows 'for every input' (looked for: loops, veiled, ifaces, maps, wideKeys, modest, calm, conditions, laid).
  DERIVED. THE GIVEN ROWS OF THIS SEAT. 9 by the template 'for every input the law returns true; each argument reads behind the call as it read before'; 0 by the template 'total and deterministic' (their statements: YtkmhkcfioinpcaaTotals.lean).
  GIVEN WITH THE SEED: the statements are not yours to turn. If you find one false, say at which input.
  Laid BY PROGRAM, IN A SANDBOX (cutbox-rows.mjs): the forced cells as the released guide's own fill.sh prints them over the translation b07362e0067e2426… (all of the seat's roots in one cut). By AI agents, Wed Nov 11 2026. No macro, syntax, notation, axiom, sorry.
-/
import Derived.Test.YtkmhkcfioinpcaaChecked
import GoSem.Claim
import GoSem.ClaimJoined
import GoSem.ClaimMapViews
import Derived.JoinedTies
import Derived.KernelRfl
namespace Go.Proofs.Ytkmhkcfioinpcaa
/- THE CELL 'sum', in the pinned program and in every row, IS THE sha256 OF THE DUMP (.gsa) THAT YtkmhkcfioinpcaaProg.lean LOADS. Nothing in Lean hashes anything: it is a label: what it is worth is what the hold of that sum in a sandbox is worth. -/
noncomputable def Try.pinned : Pinned := { name := "ytkmhkcfioinpcaa", sum := "b07362e0067e24267dca20edb112d75f880aaf801ae68d48aae746a76c87aabf", checked := Try.checked }
namespace Rows
def none {H : Type} : Left H := { results := [], args := [] }

/-- 'laws.FnExactParseRule': WHATEVER THE INPUT: true; the input reads as it did. -/
def fnExactParseRuleSpec : ChangeSpec := { name := "fnExactParseRule", fn := fun _ => fun
  | [d] => { results := [.lit (.bool true)], args := [d] }
  | _ => none }
def fnExactParseRuleRow : OpenClaim := { program := "ytkmhkcfioinpcaa", sum := "b07362e0067e24267dca20edb112d75f880aaf801ae68d48aae746a76c87aabf", func := "loop.example/g03201/laws.FnExactParseRule", spec := "fnExactParseRule", inPlace := ["internal/bytealg.IndexByteString", "internal/bytealg.IndexString"], named := ["internal/bytealg.MaxLen"], apart := false }
def FnExactParseRuleSaid : Prop := fnExactParseRuleRow.holds Try.pinned (OpenSpec.ofChange fnExactParseRuleSpec)

/-- ITS FALSE NEIGHBOUR: 'it returns false'. Refute it at one input. -/
def fnExactParseRuleWrong : ChangeSpec := { name := "fnExactParseRule", fn := fun _ => fun
  | [d] => { results := [.lit (.bool false)], args := [d] }
  | _ => none }
def FnExactParseRuleWrongFalsely : Prop := fnExactParseRuleRow.holds Try.pinned (OpenSpec.ofChange fnExactParseRuleWrong)

/-- 'laws.FnExactSidesOk': WHATEVER THE INPUT: true; the input reads as it did. -/
def fnExactSidesOkSpec : ChangeSpec := { name := "fnExactSidesOk", fn := fun _ => fun
  | [d1, d2] => { results := [.lit (.bool true)], args := [d1, d2] }
  | _ => none }
def fnExactSidesOkRow : OpenClaim := { program := "ytkmhkcfioinpcaa", sum := "b07362e0067e24267dca20edb112d75f880aaf801ae68d48aae746a76c87aabf", func := "loop.example/g03201/laws.FnExactSidesOk", spec := "fnExactSidesOk", apart := false }
def FnExactSidesOkSaid : Prop := fnExactSidesOkRow.holds Try.pinned (OpenSpec.ofChange fnExactSidesOkSpec)

/-- ITS FALSE NEIGHBOUR: 'it returns false'. Refute it at one input. -/
def fnExactSidesOkWrong : ChangeSpec := { name := "fnExactSidesOk", fn := fun _ => fun
  | [d1, d2] => { results := [.lit (.bool false)], args := [d1, d2] }
  | _ => none }
def FnExactSidesOkWrongFalsely : Prop := fnExactSidesOkRow.holds Try.pinned (OpenSpec.ofChange fnExactSidesOkWrong)

/-- 'laws.FnExactLongestSide': WHATEVER THE INPUT: true; the input reads as it did. -/
def fnExactLongestSideSpec : ChangeSpec := { name := "fnExactLongestSide", fn := fun _ => fun
  | [d] => { results := [.lit (.bool true)], args := [d] }
  | _ => none }
def fnExactLongestSideRow : OpenClaim := { program := "ytkmhkcfioinpcaa", sum := "b07362e0067e24267dca20edb112d75f880aaf801ae68d48aae746a76c87aabf", func := "loop.example/g03201/laws.FnExactLongestSide", spec := "fnExactLongestSide", apart := false }
def FnExactLongestSideSaid : Prop := fnExactLongestSideRow.holds Try.pinned (OpenSpec.ofChange fnExactLongestSideSpec)

/-- ITS FALSE NEIGHBOUR: 'it returns false'. Refute it at one input. -/
def fnExactLongestSideWrong : ChangeSpec := { name := "fnExactLongestSide", fn := fun _ => fun
  | [d] => { results := [.lit (.bool false)], args := [d] }
  | _ => none }
def FnExactLongestSideWrongFalsely : Prop := fnExactLongestSideRow.holds Try.pinned (OpenSpec.ofChange fnExactLongestSideWrong)

/-- 'laws.FnExactHasRule': WHATEVER THE INPUT: true; the input reads as it did. -/
def fnExactHasRuleSpec : ChangeSpec := { name := "fnExactHasRule", fn := fun _ => fun
  | [d1, d2] => { results := [.lit (.bool true)], args := [d1, d2] }
  | _ => none }
def fnExactHasRuleRow : OpenClaim := { program := "ytkmhkcfioinpcaa", sum := "b07362e0067e24267dca20edb112d75f880aaf801ae68d48aae746a76c87aabf", func := "loop.example/g03201/laws.FnExactHasRule", spec := "fnExactHasRule", apart := false }
def FnExactHasRuleSaid : Prop := fnExactHasRuleRow.holds Try.pinned (OpenSpec.ofChange fnExactHasRuleSpec)

/-- ITS FALSE NEIGHBOUR: 'it returns false'. Refute it at one input. -/
def fnExactHasRuleWrong : ChangeSpec := { name := "fnExactHasRule", fn := fun _ => fun
  | [d1, d2] => { results := [.lit (.bool false)], args := [d1, d2] }
  | _ => none }
def FnExactHasRuleWrongFalsely : Prop := fnExactHasRuleRow.holds Try.pinned (OpenSpec.ofChange fnExactHasRuleWrong)

/-- 'laws.FnExactSameSystem': WHATEVER THE INPUT: true; the input reads as it did. -/
def fnExactSameSystemSpec : ChangeSpec := { name := "fnExactSameSystem", fn := fun _ => fun
  | [d1, d2] => { results := [.lit (.bool true)], args := [d1, d2] }
  | _ => none }
def fnExactSameSystemRow : OpenClaim := { program := "ytkmhkcfioinpcaa", sum := "b07362e0067e24267dca20edb112d75f880aaf801ae68d48aae746a76c87aabf", func := "loop.example/g03201/laws.FnExactSameSystem", spec := "fnExactSameSystem", apart := false }
def FnExactSameSystemSaid : Prop := fnExactSameSystemRow.holds Try.pinned (OpenSpec.ofChange fnExactSameSystemSpec)

/-- ITS FALSE NEIGHBOUR: 'it returns false'. Refute it at one input. -/
def fnExactSameSystemWrong : ChangeSpec := { name := "fnExactSameSystem", fn := fun _ => fun
  | [d1, d2] => { results := [.lit (.bool false)], args := [d1, d2] }
  | _ => none }
def FnExactSameSystemWrongFalsely : Prop := fnExactSameSystemRow.holds Try.pinned (OpenSpec.ofChange fnExactSameSystemWrong)

/-- 'laws.FnExactOrientRule': WHATEVER THE INPUT: true; the input reads as it did. -/
def fnExactOrientRuleSpec : ChangeSpec := { name := "fnExactOrientRule", fn := fun _ => fun
  | [d1, d2] => { results := [.lit (.bool true)], args := [d1, d2] }
  | _ => none }
def fnExactOrientRuleRow : OpenClaim := { program := "ytkmhkcfioinpcaa", sum := "b07362e0067e24267dca20edb112d75f880aaf801ae68d48aae746a76c87aabf", func := "loop.example/g03201/laws.FnExactOrientRule", spec := "fnExactOrientRule", apart := false }
def FnExactOrientRuleSaid : Prop := fnExactOrientRuleRow.holds Try.pinned (OpenSpec.ofChange fnExactOrientRuleSpec)

/-- ITS FALSE NEIGHBOUR: 'it returns false'. Refute it at one input. -/
def fnExactOrientRuleWrong : ChangeSpec := { name := "fnExactOrientRule", fn := fun _ => fun
  | [d1, d2] => { results := [.lit (.bool false)], args := [d1, d2] }
  | _ => none }
def FnExactOrientRuleWrongFalsely : Prop := fnExactOrientRuleRow.holds Try.pinned (OpenSpec.ofChange fnExactOrientRuleWrong)

/-- 'laws.FnExactRulesOk': WHATEVER THE INPUT: true; the input reads as it did. -/
def fnExactRulesOkSpec : ChangeSpec := { name := "fnExactRulesOk", fn := fun _ => fun
  | [d] => { results := [.lit (.bool true)], args := [d] }
  | _ => none }
def fnExactRulesOkRow : OpenClaim := { program := "ytkmhkcfioinpcaa", sum := "b07362e0067e24267dca20edb112d75f880aaf801ae68d48aae746a76c87aabf", func := "loop.example/g03201/laws.FnExactRulesOk", spec := "fnExactRulesOk", unfollowed := true, recurses := true, apart := false }
def FnExactRulesOkSaid : Prop := fnExactRulesOkRow.holds Try.pinned (OpenSpec.ofChange fnExactRulesOkSpec)

/-- ITS FALSE NEIGHBOUR: 'it returns false'. Refute it at one input. -/
def fnExactRulesOkWrong : ChangeSpec := { name := "fnExactRulesOk", fn := fun _ => fun
  | [d] => { results := [.lit (.bool false)], args := [d] }
  | _ => none }
def FnExactRulesOkWrongFalsely : Prop := fnExactRulesOkRow.holds Try.pinned (OpenSpec.ofChange fnExactRulesOkWrong)

/-- 'laws.FnExactSystemOk': WHATEVER THE INPUT: true; the input reads as it did. -/
def fnExactSystemOkSpec : ChangeSpec := { name := "fnExactSystemOk", fn := fun _ => fun
  | [d] => { results := [.lit (.bool true)], args := [d] }
  | _ => none }
def fnExactSystemOkRow : OpenClaim := { program := "ytkmhkcfioinpcaa", sum := "b07362e0067e24267dca20edb112d75f880aaf801ae68d48aae746a76c87aabf", func := "loop.example/g03201/laws.FnExactSystemOk", spec := "fnExactSystemOk", unfollowed := true, recurses := true, apart := false }
def FnExactSystemOkSaid : Prop := fnExactSystemOkRow.holds Try.pinned (OpenSpec.ofChange fnExactSystemOkSpec)

/-- ITS FALSE NEIGHBOUR: 'it returns false'. Refute it at one input. -/
def fnExactSystemOkWrong : ChangeSpec := { name := "fnExactSystemOk", fn := fun _ => fun
  | [d] => { results := [.lit (.bool false)], args := [d] }
  | _ => none }
def FnExactSystemOkWrongFalsely : Prop := fnExactSystemOkRow.holds Try.pinned (OpenSpec.ofChange fnExactSystemOkWrong)

/-- 'laws.FnExactCountBack': WHATEVER THE INPUT: true; the input reads as it did. -/
def fnExactCountBackSpec : ChangeSpec := { name := "fnExactCountBack", fn := fun _ => fun
  | [d] => { results := [.lit (.bool true)], args := [d] }
  | _ => none }
def fnExactCountBackRow : OpenClaim := { program := "ytkmhkcfioinpcaa", sum := "b07362e0067e24267dca20edb112d75f880aaf801ae68d48aae746a76c87aabf", func := "loop.example/g03201/laws.FnExactCountBack", spec := "fnExactCountBack", apart := false }
def FnExactCountBackSaid : Prop := fnExactCountBackRow.holds Try.pinned (OpenSpec.ofChange fnExactCountBackSpec)

/-- ITS FALSE NEIGHBOUR: 'it returns false'. Refute it at one input. -/
def fnExactCountBackWrong : ChangeSpec := { name := "fnExactCountBack", fn := fun _ => fun
  | [d] => { results := [.lit (.bool false)], args := [d] }
  | _ => none }
def FnExactCountBackWrongFalsely : Prop := fnExactCountBackRow.holds Try.pinned (OpenSpec.ofChange fnExactCountBackWrong)

/- THE SECOND FORM. 'bulk': how many values and letters a reading holds, each counted each time it is reached (what is shared counts as often as it is met; a slice's spare places count too). A statement '..UptoSaid' is the law's where the arguments, and the package variables that the reading takes, are together of bulk at most 1048576: NARROWER than '..Said'. Prove '..Said' where nothing that the law and all that it calls make is longer than what came in: it says more and counts as full. Else prove '..UptoSaid'. A law counts once. -/
mutual
def uptoBulk {H : Type} : DataW H → Nat
  | .lit (.string bytes) => bytes.length + 1
  | .lit _ => 1
  | .nil => 1
  | .ptr d => uptoBulk d + 1
  | .slice elems spare => uptoBulkAll elems + uptoBulkAll spare + 1
  | .agg parts => uptoBulkAll parts + 1
  | .iface _ d => uptoBulk d + 1
  | .map entries => uptoBulkEntries entries + 1
  | .held _ => 1
def uptoBulkAll {H : Type} : List (DataW H) → Nat
  | [] => 0
  | d :: r => uptoBulk d + uptoBulkAll r
def uptoBulkEntries {H : Type} : List (Lit × DataW H) → Nat
  | [] => 0
  | x :: r => uptoBulkEntry x + uptoBulkEntries r
def uptoBulkEntry {H : Type} : Lit × DataW H → Nat
  | (.string bytes, d) => bytes.length + uptoBulk d + 1
  | (_, d) => uptoBulk d + 1
 end
def uptoSmall : (H : Type) → List (DataW H) → Bool := fun _ ds => decide (uptoBulkAll ds ≤ 1048576)
def OpenSpec.upto (s : _root_.Go.ChangeSpec) : _root_.Go.OpenSpec := { _root_.Go.OpenSpec.ofChange s with cond := some uptoSmall }

/-- 'laws.FnExactParseRule', WHERE WHAT IT READS IS OF BULK AT MOST 1048576: true; the input reads as it did. -/
def fnExactParseRuleUptoRow : OpenClaim := { program := "ytkmhkcfioinpcaa", sum := "b07362e0067e24267dca20edb112d75f880aaf801ae68d48aae746a76c87aabf", func := "loop.example/g03201/laws.FnExactParseRule", spec := "fnExactParseRule", inPlace := ["internal/bytealg.IndexByteString", "internal/bytealg.IndexString"], named := ["internal/bytealg.MaxLen"], apart := false, narrowed := true }
def FnExactParseRuleUptoSaid : Prop := fnExactParseRuleUptoRow.holds Try.pinned (OpenSpec.upto fnExactParseRuleSpec)

/-- 'laws.FnExactSidesOk', WHERE WHAT IT READS IS OF BULK AT MOST 1048576: true; the input reads as it did. -/
def fnExactSidesOkUptoRow : OpenClaim := { program := "ytkmhkcfioinpcaa", sum := "b07362e0067e24267dca20edb112d75f880aaf801ae68d48aae746a76c87aabf", func := "loop.example/g03201/laws.FnExactSidesOk", spec := "fnExactSidesOk", apart := false, narrowed := true }
def FnExactSidesOkUptoSaid : Prop := fnExactSidesOkUptoRow.holds Try.pinned (OpenSpec.upto fnExactSidesOkSpec)

/-- 'laws.FnExactLongestSide', WHERE WHAT IT READS IS OF BULK AT MOST 1048576: true; the input reads as it did. -/
def fnExactLongestSideUptoRow : OpenClaim := { program := "ytkmhkcfioinpcaa", sum := "b07362e0067e24267dca20edb112d75f880aaf801ae68d48aae746a76c87aabf", func := "loop.example/g03201/laws.FnExactLongestSide", spec := "fnExactLongestSide", apart := false, narrowed := true }
def FnExactLongestSideUptoSaid : Prop := fnExactLongestSideUptoRow.holds Try.pinned (OpenSpec.upto fnExactLongestSideSpec)

/-- 'laws.FnExactHasRule', WHERE WHAT IT READS IS OF BULK AT MOST 1048576: true; the input reads as it did. -/
def fnExactHasRuleUptoRow : OpenClaim := { program := "ytkmhkcfioinpcaa", sum := "b07362e0067e24267dca20edb112d75f880aaf801ae68d48aae746a76c87aabf", func := "loop.example/g03201/laws.FnExactHasRule", spec := "fnExactHasRule", apart := false, narrowed := true }
def FnExactHasRuleUptoSaid : Prop := fnExactHasRuleUptoRow.holds Try.pinned (OpenSpec.upto fnExactHasRuleSpec)

/-- 'laws.FnExactSameSystem', WHERE WHAT IT READS IS OF BULK AT MOST 1048576: true; the input reads as it did. -/
def fnExactSameSystemUptoRow : OpenClaim := { program := "ytkmhkcfioinpcaa", sum := "b07362e0067e24267dca20edb112d75f880aaf801ae68d48aae746a76c87aabf", func := "loop.example/g03201/laws.FnExactSameSystem", spec := "fnExactSameSystem", apart := false, narrowed := true }
def FnExactSameSystemUptoSaid : Prop := fnExactSameSystemUptoRow.holds Try.pinned (OpenSpec.upto fnExactSameSystemSpec)

/-- 'laws.FnExactOrientRule', WHERE WHAT IT READS IS OF BULK AT MOST 1048576: true; the input reads as it did. -/
def fnExactOrientRuleUptoRow : OpenClaim := { program := "ytkmhkcfioinpcaa", sum := "b07362e0067e24267dca20edb112d75f880aaf801ae68d48aae746a76c87aabf", func := "loop.example/g03201/laws.FnExactOrientRule", spec := "fnExactOrientRule", apart := false, narrowed := true }
def FnExactOrientRuleUptoSaid : Prop := fnExactOrientRuleUptoRow.holds Try.pinned (OpenSpec.upto fnExactOrientRuleSpec)

/-- 'laws.FnExactRulesOk', WHERE WHAT IT READS IS OF BULK AT MOST 1048576: true; the input reads as it did. -/
def fnExactRulesOkUptoRow : OpenClaim := { program := "ytkmhkcfioinpcaa", sum := "b07362e0067e24267dca20edb112d75f880aaf801ae68d48aae746a76c87aabf", func := "loop.example/g03201/laws.FnExactRulesOk", spec := "fnExactRulesOk", unfollowed := true, recurses := true, apart := false, narrowed := true }
def FnExactRulesOkUptoSaid : Prop := fnExactRulesOkUptoRow.holds Try.pinned (OpenSpec.upto fnExactRulesOkSpec)

/-- 'laws.FnExactSystemOk', WHERE WHAT IT READS IS OF BULK AT MOST 1048576: true; the input reads as it did. -/
def fnExactSystemOkUptoRow : OpenClaim := { program := "ytkmhkcfioinpcaa", sum := "b07362e0067e24267dca20edb112d75f880aaf801ae68d48aae746a76c87aabf", func := "loop.example/g03201/laws.FnExactSystemOk", spec := "fnExactSystemOk", unfollowed := true, recurses := true, apart := false, narrowed := true }
def FnExactSystemOkUptoSaid : Prop := fnExactSystemOkUptoRow.holds Try.pinned (OpenSpec.upto fnExactSystemOkSpec)

/-- 'laws.FnExactCountBack', WHERE WHAT IT READS IS OF BULK AT MOST 1048576: true; the input reads as it did. -/
def fnExactCountBackUptoRow : OpenClaim := { program := "ytkmhkcfioinpcaa", sum := "b07362e0067e24267dca20edb112d75f880aaf801ae68d48aae746a76c87aabf", func := "loop.example/g03201/laws.FnExactCountBack", spec := "fnExactCountBack", apart := false, narrowed := true }
def FnExactCountBackUptoSaid : Prop := fnExactCountBackUptoRow.holds Try.pinned (OpenSpec.upto fnExactCountBackSpec)

end Rows
end Go.Proofs.Ytkmhkcfioinpcaa
