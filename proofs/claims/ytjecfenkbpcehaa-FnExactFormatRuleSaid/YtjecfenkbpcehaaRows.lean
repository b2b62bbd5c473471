/-
  No cell of these rows narrows 'for every input' (looked for: loops, veiled, ifaces, maps, wideKeys, modest, calm, conditions, laid).
  DERIVED. THE GIVEN ROWS OF THIS SEAT. 7 by the template 'for every input the law returns true; each argument reads behind the call as it read before'; 0 by the template 'total and deterministic' (their statements: YtjecfenkbpcehaaTotals.lean).
  GIVEN WITH THE SEED: the statements are not yours to turn. If you find one false, say at which input.
  Laid BY PROGRAM, IN A SANDBOX (cutbox-rows.mjs): the forced cells as the released guide's own fill.sh prints them over the translation c25e53d860808351… (all of the seat's roots in one cut). By AI agents, Wed Nov 11 2026. No macro, syntax, notation, axiom, sorry.
-/
import Derived.Test.YtjecfenkbpcehaaChecked
import GoSem.Claim
import GoSem.ClaimJoined
import GoSem.ClaimMapViews
import Derived.JoinedTies
import Derived.KernelRfl
namespace Go.Proofs.Ytjecfenkbpcehaa
/- THE CELL 'sum', in the pinned program and in every row, IS THE sha256 OF THE DUMP (.gsa) THAT YtjecfenkbpcehaaProg.lean LOADS. Nothing in Lean hashes anything: it is a label: what it is worth is what the hold of that sum in a sandbox is worth. -/
noncomputable def Try.pinned : Pinned := { name := "ytjecfenkbpcehaa", sum := "c25e53d86080835148720654c3f3010ac569462681c1cc15941a6271bcd49545", checked := Try.checked }
namespace Rows
def none {H : Type} : Left H := { results := [], args := [] }

/-- 'laws.FnExactConstants': WHATEVER THE INPUT: true; the input reads as it did. -/
def fnExactConstantsSpec : ChangeSpec := { name := "fnExactConstants", fn := fun _ => fun
  | [] => { results := [.lit (.bool true)], args := [] }
  | _ => none }
def fnExactConstantsRow : OpenClaim := { program := "ytjecfenkbpcehaa", sum := "c25e53d86080835148720654c3f3010ac569462681c1cc15941a6271bcd49545", func := "loop.example/g03201/laws.FnExactConstants", spec := "fnExactConstants", apart := false }
def FnExactConstantsSaid : Prop := fnExactConstantsRow.holds Try.pinned (OpenSpec.ofChange fnExactConstantsSpec)

/-- ITS FALSE NEIGHBOUR: 'it returns false'. Refute it at one input. -/
def fnExactConstantsWrong : ChangeSpec := { name := "fnExactConstants", fn := fun _ => fun
  | [] => { results := [.lit (.bool false)], args := [] }
  | _ => none }
def FnExactConstantsWrongFalsely : Prop := fnExactConstantsRow.holds Try.pinned (OpenSpec.ofChange fnExactConstantsWrong)

/-- 'laws.FnExactReplaceAt': WHATEVER THE INPUT: true; the input reads as it did. -/
def fnExactReplaceAtSpec : ChangeSpec := { name := "fnExactReplaceAt", fn := fun _ => fun
  | [d1, d2, d3, d4] => { results := [.lit (.bool true)], args := [d1, d2, d3, d4] }
  | _ => none }
def fnExactReplaceAtRow : OpenClaim := { program := "ytjecfenkbpcehaa", sum := "c25e53d86080835148720654c3f3010ac569462681c1cc15941a6271bcd49545", func := "loop.example/g03201/laws.FnExactReplaceAt", spec := "fnExactReplaceAt", apart := false }
def FnExactReplaceAtSaid : Prop := fnExactReplaceAtRow.holds Try.pinned (OpenSpec.ofChange fnExactReplaceAtSpec)

/-- ITS FALSE NEIGHBOUR: 'it returns false'. Refute it at one input. -/
def fnExactReplaceAtWrong : ChangeSpec := { name := "fnExactReplaceAt", fn := fun _ => fun
  | [d1, d2, d3, d4] => { results := [.lit (.bool false)], args := [d1, d2, d3, d4] }
  | _ => none }
def FnExactReplaceAtWrongFalsely : Prop := fnExactReplaceAtRow.holds Try.pinned (OpenSpec.ofChange fnExactReplaceAtWrong)

/-- 'laws.FnExactIsDigits': WHATEVER THE INPUT: true; the input reads as it did. -/
def fnExactIsDigitsSpec : ChangeSpec := { name := "fnExactIsDigits", fn := fun _ => fun
  | [d] => { results := [.lit (.bool true)], args := [d] }
  | _ => none }
def fnExactIsDigitsRow : OpenClaim := { program := "ytjecfenkbpcehaa", sum := "c25e53d86080835148720654c3f3010ac569462681c1cc15941a6271bcd49545", func := "loop.example/g03201/laws.FnExactIsDigits", spec := "fnExactIsDigits", apart := false }
def FnExactIsDigitsSaid : Prop := fnExactIsDigitsRow.holds Try.pinned (OpenSpec.ofChange fnExactIsDigitsSpec)

/-- ITS FALSE NEIGHBOUR: 'it returns false'. Refute it at one input. -/
def fnExactIsDigitsWrong : ChangeSpec := { name := "fnExactIsDigits", fn := fun _ => fun
  | [d] => { results := [.lit (.bool false)], args := [d] }
  | _ => none }
def FnExactIsDigitsWrongFalsely : Prop := fnExactIsDigitsRow.holds Try.pinned (OpenSpec.ofChange fnExactIsDigitsWrong)

/-- 'laws.FnExactMirrorWord': WHATEVER THE INPUT: true; the input reads as it did. -/
def fnExactMirrorWordSpec : ChangeSpec := { name := "fnExactMirrorWord", fn := fun _ => fun
  | [d] => { results := [.lit (.bool true)], args := [d] }
  | _ => none }
def fnExactMirrorWordRow : OpenClaim := { program := "ytjecfenkbpcehaa", sum := "c25e53d86080835148720654c3f3010ac569462681c1cc15941a6271bcd49545", func := "loop.example/g03201/laws.FnExactMirrorWord", spec := "fnExactMirrorWord", apart := false }
def FnExactMirrorWordSaid : Prop := fnExactMirrorWordRow.holds Try.pinned (OpenSpec.ofChange fnExactMirrorWordSpec)

/-- ITS FALSE NEIGHBOUR: 'it returns false'. Refute it at one input. -/
def fnExactMirrorWordWrong : ChangeSpec := { name := "fnExactMirrorWord", fn := fun _ => fun
  | [d] => { results := [.lit (.bool false)], args := [d] }
  | _ => none }
def FnExactMirrorWordWrongFalsely : Prop := fnExactMirrorWordRow.holds Try.pinned (OpenSpec.ofChange fnExactMirrorWordWrong)

/-- 'laws.FnExactWordOk': WHATEVER THE INPUT: true; the input reads as it did. -/
def fnExactWordOkSpec : ChangeSpec := { name := "fnExactWordOk", fn := fun _ => fun
  | [d1, d2] => { results := [.lit (.bool true)], args := [d1, d2] }
  | _ => none }
def fnExactWordOkRow : OpenClaim := { program := "ytjecfenkbpcehaa", sum := "c25e53d86080835148720654c3f3010ac569462681c1cc15941a6271bcd49545", func := "loop.example/g03201/laws.FnExactWordOk", spec := "fnExactWordOk", apart := false }
def FnExactWordOkSaid : Prop := fnExactWordOkRow.holds Try.pinned (OpenSpec.ofChange fnExactWordOkSpec)

/-- ITS FALSE NEIGHBOUR: 'it returns false'. Refute it at one input. -/
def fnExactWordOkWrong : ChangeSpec := { name := "fnExactWordOk", fn := fun _ => fun
  | [d1, d2] => { results := [.lit (.bool false)], args := [d1, d2] }
  | _ => none }
def FnExactWordOkWrongFalsely : Prop := fnExactWordOkRow.holds Try.pinned (OpenSpec.ofChange fnExactWordOkWrong)

/-- 'laws.FnExactIsName': WHATEVER THE INPUT: true; the input reads as it did. -/
def fnExactIsNameSpec : ChangeSpec := { name := "fnExactIsName", fn := fun _ => fun
  | [d] => { results := [.lit (.bool true)], args := [d] }
  | _ => none }
def fnExactIsNameRow : OpenClaim := { program := "ytjecfenkbpcehaa", sum := "c25e53d86080835148720654c3f3010ac569462681c1cc15941a6271bcd49545", func := "loop.example/g03201/laws.FnExactIsName", spec := "fnExactIsName", apart := false }
def FnExactIsNameSaid : Prop := fnExactIsNameRow.holds Try.pinned (OpenSpec.ofChange fnExactIsNameSpec)

/-- ITS FALSE NEIGHBOUR: 'it returns false'. Refute it at one input. -/
def fnExactIsNameWrong : ChangeSpec := { name := "fnExactIsName", fn := fun _ => fun
  | [d] => { results := [.lit (.bool false)], args := [d] }
  | _ => none }
def FnExactIsNameWrongFalsely : Prop := fnExactIsNameRow.holds Try.pinned (OpenSpec.ofChange fnExactIsNameWrong)

/-- 'laws.FnExactFormatRule': WHATEVER THE INPUT: true; the input reads as it did. -/
def fnExactFormatRuleSpec : ChangeSpec := { name := "fnExactFormatRule", fn := fun _ => fun
  | [d] => { results := [.lit (.bool true)], args := [d] }
  | _ => none }
def fnExactFormatRuleRow : OpenClaim := { program := "ytjecfenkbpcehaa", sum := "c25e53d86080835148720654c3f3010ac569462681c1cc15941a6271bcd49545", func := "loop.example/g03201/laws.FnExactFormatRule", spec := "fnExactFormatRule", apart := false }
def FnExactFormatRuleSaid : Prop := fnExactFormatRuleRow.holds Try.pinned (OpenSpec.ofChange fnExactFormatRuleSpec)

/-- ITS FALSE NEIGHBOUR: 'it returns false'. Refute it at one input. -/
def fnExactFormatRuleWrong : ChangeSpec := { name := "fnExactFormatRule", fn := fun _ => fun
  | [d] => { results := [.lit (.bool false)], args := [d] }
  | _ => none }
def FnExactFormatRuleWrongFalsely : Prop := fnExactFormatRuleRow.holds Try.pinned (OpenSpec.ofChange fnExactFormatRuleWrong)

/- THE SECOND FORM. 'bulk': how many values and letters a reading holds, each counted each time it is reached (what is shared counts as often as it is met; a slice's spare places count too). A statement '..UptoSaid' is the law's where the arguments, and the package variables that the reading takes, are together of bulk at most 1048576: NARROWER than '..Said'. Prove '..Said' where nothing that the law and all that it calls make is longer than what came in: it says more and counts as full. Else prove '..UptoSaid'. A law counts once. -/
mutual
def uptoBulk {H : Type} : DataW H → Nat
  | .lit (.string bytes) => bytes.length + 1
  | .lit _ => 1
  | .nil => 1
  | .ptr d => uptoBulk d + 1
  | .slice elems spare => uptoBulkAll elems + uptoBulkAll spare + 1
  | .agg parts => uptoBulkAll parts + 1
  | .iface _ d => uptoBulk d + 1
  | .map entries => uptoBulkEntries entries + 1
  | .held _ => 1
def uptoBulkAll {H : Type} : List (DataW H) → Nat
  | [] => 0
  | d :: r => uptoBulk d + uptoBulkAll r
def uptoBulkEntries {H : Type} : List (Lit × DataW H) → Nat
  | [] => 0
  | x :: r => uptoBulkEntry x + uptoBulkEntries r
def uptoBulkEntry {H : Type} : Lit × DataW H → Nat
  | (.string bytes, d) => bytes.length + uptoBulk d + 1
  | (_, d) => uptoBulk d + 1
 end
def uptoSmall : (H : Type) → List (DataW H) → Bool := fun _ ds => decide (uptoBulkAll ds ≤ 1048576)
def OpenSpec.upto (s : _root_.Go.ChangeSpec) : _root_.Go.OpenSpec := { _root_.Go.OpenSpec.ofChange s with cond := some uptoSmall }

/-- 'laws.FnExactConstants', WHERE WHAT IT READS IS OF BULK AT MOST 1048576: true; the input reads as it did. -/
def fnExactConstantsUptoRow : OpenClaim := { program := "ytjecfenkbpcehaa", sum := "c25e53d86080835148720654c3f3010ac569462681c1cc15941a6271bcd49545", func := "loop.example/g03201/laws.FnExactConstants", spec := "fnExactConstants", apart := false, narrowed := true }
def FnExactConstantsUptoSaid : Prop := fnExactConstantsUptoRow.holds Try.pinned (OpenSpec.upto fnExactConstantsSpec)

/-- 'laws.FnExactReplaceAt', WHERE WHAT IT READS IS OF BULK AT MOST 1048576: true; the input reads as it did. -/
def fnExactReplaceAtUptoRow : OpenClaim := { program := "ytjecfenkbpcehaa", sum := "c25e53d86080835148720654c3f3010ac569462681c1cc15941a6271bcd49545", func := "loop.example/g03201/laws.FnExactReplaceAt", spec := "fnExactReplaceAt", apart := false, narrowed := true }
def FnExactReplaceAtUptoSaid : Prop := fnExactReplaceAtUptoRow.holds Try.pinned (OpenSpec.upto fnExactReplaceAtSpec)

/-- 'laws.FnExactIsDigits', WHERE WHAT IT READS IS OF BULK AT MOST 1048576: true; the input reads as it did. -/
def fnExactIsDigitsUptoRow : OpenClaim := { program := "ytjecfenkbpcehaa", sum := "c25e53d86080835148720654c3f3010ac569462681c1cc15941a6271bcd49545", func := "loop.example/g03201/laws.FnExactIsDigits", spec := "fnExactIsDigits", apart := false, narrowed := true }
def FnExactIsDigitsUptoSaid : Prop := fnExactIsDigitsUptoRow.holds Try.pinned (OpenSpec.upto fnExactIsDigitsSpec)

/-- 'laws.FnExactMirrorWord', WHERE WHAT IT READS IS OF BULK AT MOST 1048576: true; the input reads as it did. -/
def fnExactMirrorWordUptoRow : OpenClaim := { program := "ytjecfenkbpcehaa", sum := "c25e53d86080835148720654c3f3010ac569462681c1cc15941a6271bcd49545", func := "loop.example/g03201/laws.FnExactMirrorWord", spec := "fnExactMirrorWord", apart := false, narrowed := true }
def FnExactMirrorWordUptoSaid : Prop := fnExactMirrorWordUptoRow.holds Try.pinned (OpenSpec.upto fnExactMirrorWordSpec)

/-- 'laws.FnExactWordOk', WHERE WHAT IT READS IS OF BULK AT MOST 1048576: true; the input reads as it did. -/
def fnExactWordOkUptoRow : OpenClaim := { program := "ytjecfenkbpcehaa", sum := "c25e53d86080835148720654c3f3010ac569462681c1cc15941a6271bcd49545", func := "loop.example/g03201/laws.FnExactWordOk", spec := "fnExactWordOk", apart := false, narrowed := true }
def FnExactWordOkUptoSaid : Prop := fnExactWordOkUptoRow.holds Try.pinned (OpenSpec.upto fnExactWordOkSpec)

/-- 'laws.FnExactIsName', WHERE WHAT IT READS IS OF BULK AT MOST 1048576: true; the input reads as it did. -/
def fnExactIsNameUptoRow : OpenClaim := { program := "ytjecfenkbpcehaa", sum := "c25e53d86080835148720654c3f3010ac569462681c1cc15941a6271bcd49545", func := "loop.example/g03201/laws.FnExactIsName", spec := "fnExactIsName", apart := false, narrowed := true }
def FnExactIsNameUptoSaid : Prop := fnExactIsNameUptoRow.holds Try.pinned (OpenSpec.upto fnExactIsNameSpec)

/-- 'laws.FnExactFormatRule', WHERE WHAT IT READS IS OF BULK AT MOST 1048576: true; the input reads as it did. -/
def fnExactFormatRuleUptoRow : OpenClaim := { program := "ytjecfenkbpcehaa", sum := "c25e53d86080835148720654c3f3010ac569462681c1cc15941a6271bcd49545", func := "loop.example/g03201/laws.FnExactFormatRule", spec := "fnExactFormatRule", apart := false, narrowed := true }
def FnExactFormatRuleUptoSaid : Prop := fnExactFormatRuleUptoRow.holds Try.pinned (OpenSpec.upto fnExactFormatRuleSpec)

end Rows
end Go.Proofs.Ytjecfenkbpcehaa
