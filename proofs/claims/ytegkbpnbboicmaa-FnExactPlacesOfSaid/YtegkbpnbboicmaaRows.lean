/-
  No cell of these rows narrows 'for every input' (looked for: loops, veiled, ifaces, maps, wideKeys, modest, calm, conditions, laid).
  DERIVED. THE GIVEN ROWS OF THIS SEAT. 11 by the template 'for every input the law returns true; each argument reads behind the call as it read before'; 0 by the template 'total and deterministic' (their statements: YtegkbpnbboicmaaTotals.lean).
  GIVEN WITH THE SEED: the statements are not yours to turn. If you find one false, say at which input.
  Laid BY PROGRAM, IN A SANDBOX (cutbox-rows.mjs): the forced cells as the released guide's own fill.sh prints them over the translation f1d11af10b89d215… (all of the seat's roots in one cut). By AI agents, Wed Nov 11 2026. No macro, syntax, notation, axiom, sorry.
-/
import Derived.Test.YtegkbpnbboicmaaChecked
import GoSem.Claim
import GoSem.ClaimJoined
import GoSem.ClaimMapViews
import Derived.JoinedTies
import Derived.KernelRfl
namespace Go.Proofs.Ytegkbpnbboicmaa
/- THE CELL 'sum', in the pinned program and in every row, IS THE sha256 OF THE DUMP (.gsa) THAT YtegkbpnbboicmaaProg.lean LOADS. Nothing in Lean hashes anything: it is a label: what it is worth is what the hold of that sum in a sandbox is worth. -/
noncomputable def Try.pinned : Pinned := { name := "ytegkbpnbboicmaa", sum := "f1d11af10b89d2153880785a4488fed3c1ffa104c18a07d1d4d9d9418a043ee9", checked := Try.checked }
namespace Rows
def none {H : Type} : Left H := { results := [], args := [] }

/-- 'laws.FnExactIsLess': WHATEVER THE INPUT: true; the input reads as it did. -/
def fnExactIsLessSpec : ChangeSpec := { name := "fnExactIsLess", fn := fun _ => fun
  | [d1, d2] => { results := [.lit (.bool true)], args := [d1, d2] }
  | _ => none }
def fnExactIsLessRow : OpenClaim := { program := "ytegkbpnbboicmaa", sum := "f1d11af10b89d2153880785a4488fed3c1ffa104c18a07d1d4d9d9418a043ee9", func := "loop.example/g03201/laws.FnExactIsLess", spec := "fnExactIsLess", apart := false }
def FnExactIsLessSaid : Prop := fnExactIsLessRow.holds Try.pinned (OpenSpec.ofChange fnExactIsLessSpec)

/-- ITS FALSE NEIGHBOUR: 'it returns false'. Refute it at one input. -/
def fnExactIsLessWrong : ChangeSpec := { name := "fnExactIsLess", fn := fun _ => fun
  | [d1, d2] => { results := [.lit (.bool false)], args := [d1, d2] }
  | _ => none }
def FnExactIsLessWrongFalsely : Prop := fnExactIsLessRow.holds Try.pinned (OpenSpec.ofChange fnExactIsLessWrong)

/-- 'laws.FnExactOverlapsOf': WHATEVER THE INPUT: true; the input reads as it did. -/
def fnExactOverlapsOfSpec : ChangeSpec := { name := "fnExactOverlapsOf", fn := fun _ => fun
  | [d1, d2] => { results := [.lit (.bool true)], args := [d1, d2] }
  | _ => none }
def fnExactOverlapsOfRow : OpenClaim := { program := "ytegkbpnbboicmaa", sum := "f1d11af10b89d2153880785a4488fed3c1ffa104c18a07d1d4d9d9418a043ee9", func := "loop.example/g03201/laws.FnExactOverlapsOf", spec := "fnExactOverlapsOf", apart := false }
def FnExactOverlapsOfSaid : Prop := fnExactOverlapsOfRow.holds Try.pinned (OpenSpec.ofChange fnExactOverlapsOfSpec)

/-- ITS FALSE NEIGHBOUR: 'it returns false'. Refute it at one input. -/
def fnExactOverlapsOfWrong : ChangeSpec := { name := "fnExactOverlapsOf", fn := fun _ => fun
  | [d1, d2] => { results := [.lit (.bool false)], args := [d1, d2] }
  | _ => none }
def FnExactOverlapsOfWrongFalsely : Prop := fnExactOverlapsOfRow.holds Try.pinned (OpenSpec.ofChange fnExactOverlapsOfWrong)

/-- 'laws.FnExactPlacesOf': WHATEVER THE INPUT: true; the input reads as it did. -/
def fnExactPlacesOfSpec : ChangeSpec := { name := "fnExactPlacesOf", fn := fun _ => fun
  | [d1, d2] => { results := [.lit (.bool true)], args := [d1, d2] }
  | _ => none }
def fnExactPlacesOfRow : OpenClaim := { program := "ytegkbpnbboicmaa", sum := "f1d11af10b89d2153880785a4488fed3c1ffa104c18a07d1d4d9d9418a043ee9", func := "loop.example/g03201/laws.FnExactPlacesOf", spec := "fnExactPlacesOf", apart := false }
def FnExactPlacesOfSaid : Prop := fnExactPlacesOfRow.holds Try.pinned (OpenSpec.ofChange fnExactPlacesOfSpec)

/-- ITS FALSE NEIGHBOUR: 'it returns false'. Refute it at one input. -/
def fnExactPlacesOfWrong : ChangeSpec := { name := "fnExactPlacesOf", fn := fun _ => fun
  | [d1, d2] => { results := [.lit (.bool false)], args := [d1, d2] }
  | _ => none }
def FnExactPlacesOfWrongFalsely : Prop := fnExactPlacesOfRow.holds Try.pinned (OpenSpec.ofChange fnExactPlacesOfWrong)

/-- 'laws.FnExactSplitAny': WHATEVER THE INPUT: true; the input reads as it did. -/
def fnExactSplitAnySpec : ChangeSpec := { name := "fnExactSplitAny", fn := fun _ => fun
  | [d1, d2] => { results := [.lit (.bool true)], args := [d1, d2] }
  | _ => none }
def fnExactSplitAnyRow : OpenClaim := { program := "ytegkbpnbboicmaa", sum := "f1d11af10b89d2153880785a4488fed3c1ffa104c18a07d1d4d9d9418a043ee9", func := "loop.example/g03201/laws.FnExactSplitAny", spec := "fnExactSplitAny", inPlace := ["internal/bytealg.IndexByteString"], apart := false }
def FnExactSplitAnySaid : Prop := fnExactSplitAnyRow.holds Try.pinned (OpenSpec.ofChange fnExactSplitAnySpec)

/-- ITS FALSE NEIGHBOUR: 'it returns false'. Refute it at one input. -/
def fnExactSplitAnyWrong : ChangeSpec := { name := "fnExactSplitAny", fn := fun _ => fun
  | [d1, d2] => { results := [.lit (.bool false)], args := [d1, d2] }
  | _ => none }
def FnExactSplitAnyWrongFalsely : Prop := fnExactSplitAnyRow.holds Try.pinned (OpenSpec.ofChange fnExactSplitAnyWrong)

/-- 'laws.FnExactWordsOf': WHATEVER THE INPUT: true; the input reads as it did. -/
def fnExactWordsOfSpec : ChangeSpec := { name := "fnExactWordsOf", fn := fun _ => fun
  | [d1, d2] => { results := [.lit (.bool true)], args := [d1, d2] }
  | _ => none }
def fnExactWordsOfRow : OpenClaim := { program := "ytegkbpnbboicmaa", sum := "f1d11af10b89d2153880785a4488fed3c1ffa104c18a07d1d4d9d9418a043ee9", func := "loop.example/g03201/laws.FnExactWordsOf", spec := "fnExactWordsOf", apart := false }
def FnExactWordsOfSaid : Prop := fnExactWordsOfRow.holds Try.pinned (OpenSpec.ofChange fnExactWordsOfSpec)

/-- ITS FALSE NEIGHBOUR: 'it returns false'. Refute it at one input. -/
def fnExactWordsOfWrong : ChangeSpec := { name := "fnExactWordsOf", fn := fun _ => fun
  | [d1, d2] => { results := [.lit (.bool false)], args := [d1, d2] }
  | _ => none }
def FnExactWordsOfWrongFalsely : Prop := fnExactWordsOfRow.holds Try.pinned (OpenSpec.ofChange fnExactWordsOfWrong)

/-- 'laws.FnExactJoin': WHATEVER THE INPUT: true; the input reads as it did. -/
def fnExactJoinSpec : ChangeSpec := { name := "fnExactJoin", fn := fun _ => fun
  | [d1, d2] => { results := [.lit (.bool true)], args := [d1, d2] }
  | _ => none }
def fnExactJoinRow : OpenClaim := { program := "ytegkbpnbboicmaa", sum := "f1d11af10b89d2153880785a4488fed3c1ffa104c18a07d1d4d9d9418a043ee9", func := "loop.example/g03201/laws.FnExactJoin", spec := "fnExactJoin", inPlace := ["internal/abi.NoEscape", "internal/bytealg.MakeNoZero"], apart := false }
def FnExactJoinSaid : Prop := fnExactJoinRow.holds Try.pinned (OpenSpec.ofChange fnExactJoinSpec)

/-- ITS FALSE NEIGHBOUR: 'it returns false'. Refute it at one input. -/
def fnExactJoinWrong : ChangeSpec := { name := "fnExactJoin", fn := fun _ => fun
  | [d1, d2] => { results := [.lit (.bool false)], args := [d1, d2] }
  | _ => none }
def FnExactJoinWrongFalsely : Prop := fnExactJoinRow.holds Try.pinned (OpenSpec.ofChange fnExactJoinWrong)

/-- 'laws.FnExactCountLetter': WHATEVER THE INPUT: true; the input reads as it did. -/
def fnExactCountLetterSpec : ChangeSpec := { name := "fnExactCountLetter", fn := fun _ => fun
  | [d1, d2] => { results := [.lit (.bool true)], args := [d1, d2] }
  | _ => none }
def fnExactCountLetterRow : OpenClaim := { program := "ytegkbpnbboicmaa", sum := "f1d11af10b89d2153880785a4488fed3c1ffa104c18a07d1d4d9d9418a043ee9", func := "loop.example/g03201/laws.FnExactCountLetter", spec := "fnExactCountLetter", inPlace := ["internal/bytealg.CountString", "internal/bytealg.IndexByteString", "internal/bytealg.IndexString"], named := ["internal/bytealg.MaxLen"], apart := false }
def FnExactCountLetterSaid : Prop := fnExactCountLetterRow.holds Try.pinned (OpenSpec.ofChange fnExactCountLetterSpec)

/-- ITS FALSE NEIGHBOUR: 'it returns false'. Refute it at one input. -/
def fnExactCountLetterWrong : ChangeSpec := { name := "fnExactCountLetter", fn := fun _ => fun
  | [d1, d2] => { results := [.lit (.bool false)], args := [d1, d2] }
  | _ => none }
def FnExactCountLetterWrongFalsely : Prop := fnExactCountLetterRow.holds Try.pinned (OpenSpec.ofChange fnExactCountLetterWrong)

/-- 'laws.FnExactPadZeros': WHATEVER THE INPUT: true; the input reads as it did. -/
def fnExactPadZerosSpec : ChangeSpec := { name := "fnExactPadZeros", fn := fun _ => fun
  | [d1, d2] => { results := [.lit (.bool true)], args := [d1, d2] }
  | _ => none }
def fnExactPadZerosRow : OpenClaim := { program := "ytegkbpnbboicmaa", sum := "f1d11af10b89d2153880785a4488fed3c1ffa104c18a07d1d4d9d9418a043ee9", func := "loop.example/g03201/laws.FnExactPadZeros", spec := "fnExactPadZeros", inPlace := ["internal/abi.NoEscape", "internal/bytealg.MakeNoZero"], apart := false }
def FnExactPadZerosSaid : Prop := fnExactPadZerosRow.holds Try.pinned (OpenSpec.ofChange fnExactPadZerosSpec)

/-- ITS FALSE NEIGHBOUR: 'it returns false'. Refute it at one input. -/
def fnExactPadZerosWrong : ChangeSpec := { name := "fnExactPadZeros", fn := fun _ => fun
  | [d1, d2] => { results := [.lit (.bool false)], args := [d1, d2] }
  | _ => none }
def FnExactPadZerosWrongFalsely : Prop := fnExactPadZerosRow.holds Try.pinned (OpenSpec.ofChange fnExactPadZerosWrong)

/-- 'laws.FnExactPowerWord': WHATEVER THE INPUT: true; the input reads as it did. -/
def fnExactPowerWordSpec : ChangeSpec := { name := "fnExactPowerWord", fn := fun _ => fun
  | [d1, d2] => { results := [.lit (.bool true)], args := [d1, d2] }
  | _ => none }
def fnExactPowerWordRow : OpenClaim := { program := "ytegkbpnbboicmaa", sum := "f1d11af10b89d2153880785a4488fed3c1ffa104c18a07d1d4d9d9418a043ee9", func := "loop.example/g03201/laws.FnExactPowerWord", spec := "fnExactPowerWord", inPlace := ["internal/abi.NoEscape", "internal/bytealg.MakeNoZero"], apart := false }
def FnExactPowerWordSaid : Prop := fnExactPowerWordRow.holds Try.pinned (OpenSpec.ofChange fnExactPowerWordSpec)

/-- ITS FALSE NEIGHBOUR: 'it returns false'. Refute it at one input. -/
def fnExactPowerWordWrong : ChangeSpec := { name := "fnExactPowerWord", fn := fun _ => fun
  | [d1, d2] => { results := [.lit (.bool false)], args := [d1, d2] }
  | _ => none }
def FnExactPowerWordWrongFalsely : Prop := fnExactPowerWordRow.holds Try.pinned (OpenSpec.ofChange fnExactPowerWordWrong)

/-- 'laws.FnExactRootOf': WHATEVER THE INPUT: true; the input reads as it did. -/
def fnExactRootOfSpec : ChangeSpec := { name := "fnExactRootOf", fn := fun _ => fun
  | [d] => { results := [.lit (.bool true)], args := [d] }
  | _ => none }
def fnExactRootOfRow : OpenClaim := { program := "ytegkbpnbboicmaa", sum := "f1d11af10b89d2153880785a4488fed3c1ffa104c18a07d1d4d9d9418a043ee9", func := "loop.example/g03201/laws.FnExactRootOf", spec := "fnExactRootOf", inPlace := ["internal/abi.NoEscape", "internal/bytealg.MakeNoZero"], apart := false }
def FnExactRootOfSaid : Prop := fnExactRootOfRow.holds Try.pinned (OpenSpec.ofChange fnExactRootOfSpec)

/-- ITS FALSE NEIGHBOUR: 'it returns false'. Refute it at one input. -/
def fnExactRootOfWrong : ChangeSpec := { name := "fnExactRootOf", fn := fun _ => fun
  | [d] => { results := [.lit (.bool false)], args := [d] }
  | _ => none }
def FnExactRootOfWrongFalsely : Prop := fnExactRootOfRow.holds Try.pinned (OpenSpec.ofChange fnExactRootOfWrong)

/-- 'laws.FnOrders': WHATEVER THE INPUT: true; the input reads as it did. -/
def fnOrdersSpec : ChangeSpec := { name := "fnOrders", fn := fun _ => fun
  | [d] => { results := [.lit (.bool true)], args := [d] }
  | _ => none }
def fnOrdersRow : OpenClaim := { program := "ytegkbpnbboicmaa", sum := "f1d11af10b89d2153880785a4488fed3c1ffa104c18a07d1d4d9d9418a043ee9", func := "loop.example/g03201/laws.FnOrders", spec := "fnOrders", inPlace := ["internal/bytealg.CountString", "internal/bytealg.IndexByteString", "internal/bytealg.IndexString"], named := ["internal/bytealg.MaxLen"], apart := false }
def FnOrdersSaid : Prop := fnOrdersRow.holds Try.pinned (OpenSpec.ofChange fnOrdersSpec)

/-- ITS FALSE NEIGHBOUR: 'it returns false'. Refute it at one input. -/
def fnOrdersWrong : ChangeSpec := { name := "fnOrders", fn := fun _ => fun
  | [d] => { results := [.lit (.bool false)], args := [d] }
  | _ => none }
def FnOrdersWrongFalsely : Prop := fnOrdersRow.holds Try.pinned (OpenSpec.ofChange fnOrdersWrong)

/- THE SECOND FORM. 'bulk': how many values and letters a reading holds, each counted each time it is reached (what is shared counts as often as it is met; a slice's spare places count too). A statement '..UptoSaid' is the law's where the arguments, and the package variables that the reading takes, are together of bulk at most 1048576: NARROWER than '..Said'. Prove '..Said' where nothing that the law and all that it calls make is longer than what came in: it says more and counts as full. Else prove '..UptoSaid'. A law counts once. -/
mutual
def uptoBulk {H : Type} : DataW H → Nat
  | .lit (.string bytes) => bytes.length + 1
  | .lit _ => 1
  | .nil => 1
  | .ptr d => uptoBulk d + 1
  | .slice elems spare => uptoBulkAll elems + uptoBulkAll spare + 1
  | .agg parts => uptoBulkAll parts + 1
  | .iface _ d => uptoBulk d + 1
  | .map entries => uptoBulkEntries entries + 1
  | .held _ => 1
def uptoBulkAll {H : Type} : List (DataW H) → Nat
  | [] => 0
  | d :: r => uptoBulk d + uptoBulkAll r
def uptoBulkEntries {H : Type} : List (Lit × DataW H) → Nat
  | [] => 0
  | x :: r => uptoBulkEntry x + uptoBulkEntries r
def uptoBulkEntry {H : Type} : Lit × DataW H → Nat
  | (.string bytes, d) => bytes.length + uptoBulk d + 1
  | (_, d) => uptoBulk d + 1
 end
def uptoSmall : (H : Type) → List (DataW H) → Bool := fun _ ds => decide (uptoBulkAll ds ≤ 1048576)
def OpenSpec.upto (s : _root_.Go.ChangeSpec) : _root_.Go.OpenSpec := { _root_.Go.OpenSpec.ofChange s with cond := some uptoSmall }

/-- 'laws.FnExactIsLess', WHERE WHAT IT READS IS OF BULK AT MOST 1048576: true; the input reads as it did. -/
def fnExactIsLessUptoRow : OpenClaim := { program := "ytegkbpnbboicmaa", sum := "f1d11af10b89d2153880785a4488fed3c1ffa104c18a07d1d4d9d9418a043ee9", func := "loop.example/g03201/laws.FnExactIsLess", spec := "fnExactIsLess", apart := false, narrowed := true }
def FnExactIsLessUptoSaid : Prop := fnExactIsLessUptoRow.holds Try.pinned (OpenSpec.upto fnExactIsLessSpec)

/-- 'laws.FnExactOverlapsOf', WHERE WHAT IT READS IS OF BULK AT MOST 1048576: true; the input reads as it did. -/
def fnExactOverlapsOfUptoRow : OpenClaim := { program := "ytegkbpnbboicmaa", sum := "f1d11af10b89d2153880785a4488fed3c1ffa104c18a07d1d4d9d9418a043ee9", func := "loop.example/g03201/laws.FnExactOverlapsOf", spec := "fnExactOverlapsOf", apart := false, narrowed := true }
def FnExactOverlapsOfUptoSaid : Prop := fnExactOverlapsOfUptoRow.holds Try.pinned (OpenSpec.upto fnExactOverlapsOfSpec)

/-- 'laws.FnExactPlacesOf', WHERE WHAT IT READS IS OF BULK AT MOST 1048576: true; the input reads as it did. -/
def fnExactPlacesOfUptoRow : OpenClaim := { program := "ytegkbpnbboicmaa", sum := "f1d11af10b89d2153880785a4488fed3c1ffa104c18a07d1d4d9d9418a043ee9", func := "loop.example/g03201/laws.FnExactPlacesOf", spec := "fnExactPlacesOf", apart := false, narrowed := true }
def FnExactPlacesOfUptoSaid : Prop := fnExactPlacesOfUptoRow.holds Try.pinned (OpenSpec.upto fnExactPlacesOfSpec)

/-- 'laws.FnExactSplitAny', WHERE WHAT IT READS IS OF BULK AT MOST 1048576: true; the input reads as it did. -/
def fnExactSplitAnyUptoRow : OpenClaim := { program := "ytegkbpnbboicmaa", sum := "f1d11af10b89d2153880785a4488fed3c1ffa104c18a07d1d4d9d9418a043ee9", func := "loop.example/g03201/laws.FnExactSplitAny", spec := "fnExactSplitAny", inPlace := ["internal/bytealg.IndexByteString"], apart := false, narrowed := true }
def FnExactSplitAnyUptoSaid : Prop := fnExactSplitAnyUptoRow.holds Try.pinned (OpenSpec.upto fnExactSplitAnySpec)

/-- 'laws.FnExactWordsOf', WHERE WHAT IT READS IS OF BULK AT MOST 1048576: true; the input reads as it did. -/
def fnExactWordsOfUptoRow : OpenClaim := { program := "ytegkbpnbboicmaa", sum := "f1d11af10b89d2153880785a4488fed3c1ffa104c18a07d1d4d9d9418a043ee9", func := "loop.example/g03201/laws.FnExactWordsOf", spec := "fnExactWordsOf", apart := false, narrowed := true }
def FnExactWordsOfUptoSaid : Prop := fnExactWordsOfUptoRow.holds Try.pinned (OpenSpec.upto fnExactWordsOfSpec)

/-- 'laws.FnExactJoin', WHERE WHAT IT READS IS OF BULK AT MOST 1048576: true; the input reads as it did. -/
def fnExactJoinUptoRow : OpenClaim := { program := "ytegkbpnbboicmaa", sum := "f1d11af10b89d2153880785a4488fed3c1ffa104c18a07d1d4d9d9418a043ee9", func := "loop.example/g03201/laws.FnExactJoin", spec := "fnExactJoin", inPlace := ["internal/abi.NoEscape", "internal/bytealg.MakeNoZero"], apart := false, narrowed := true }
def FnExactJoinUptoSaid : Prop := fnExactJoinUptoRow.holds Try.pinned (OpenSpec.upto fnExactJoinSpec)

/-- 'laws.FnExactCountLetter', WHERE WHAT IT READS IS OF BULK AT MOST 1048576: true; the input reads as it did. -/
def fnExactCountLetterUptoRow : OpenClaim := { program := "ytegkbpnbboicmaa", sum := "f1d11af10b89d2153880785a4488fed3c1ffa104c18a07d1d4d9d9418a043ee9", func := "loop.example/g03201/laws.FnExactCountLetter", spec := "fnExactCountLetter", inPlace := ["internal/bytealg.CountString", "internal/bytealg.IndexByteString", "internal/bytealg.IndexString"], named := ["internal/bytealg.MaxLen"], apart := false, narrowed := true }
def FnExactCountLetterUptoSaid : Prop := fnExactCountLetterUptoRow.holds Try.pinned (OpenSpec.upto fnExactCountLetterSpec)

/-- 'laws.FnExactPadZeros', WHERE WHAT IT READS IS OF BULK AT MOST 1048576: true; the input reads as it did. -/
def fnExactPadZerosUptoRow : OpenClaim := { program := "ytegkbpnbboicmaa", sum := "f1d11af10b89d2153880785a4488fed3c1ffa104c18a07d1d4d9d9418a043ee9", func := "loop.example/g03201/laws.FnExactPadZeros", spec := "fnExactPadZeros", inPlace := ["internal/abi.NoEscape", "internal/bytealg.MakeNoZero"], apart := false, narrowed := true }
def FnExactPadZerosUptoSaid : Prop := fnExactPadZerosUptoRow.holds Try.pinned (OpenSpec.upto fnExactPadZerosSpec)

/-- 'laws.FnExactPowerWord', WHERE WHAT IT READS IS OF BULK AT MOST 1048576: true; the input reads as it did. -/
def fnExactPowerWordUptoRow : OpenClaim := { program := "ytegkbpnbboicmaa", sum := "f1d11af10b89d2153880785a4488fed3c1ffa104c18a07d1d4d9d9418a043ee9", func := "loop.example/g03201/laws.FnExactPowerWord", spec := "fnExactPowerWord", inPlace := ["internal/abi.NoEscape", "internal/bytealg.MakeNoZero"], apart := false, narrowed := true }
def FnExactPowerWordUptoSaid : Prop := fnExactPowerWordUptoRow.holds Try.pinned (OpenSpec.upto fnExactPowerWordSpec)

/-- 'laws.FnExactRootOf', WHERE WHAT IT READS IS OF BULK AT MOST 1048576: true; the input reads as it did. -/
def fnExactRootOfUptoRow : OpenClaim := { program := "ytegkbpnbboicmaa", sum := "f1d11af10b89d2153880785a4488fed3c1ffa104c18a07d1d4d9d9418a043ee9", func := "loop.example/g03201/laws.FnExactRootOf", spec := "fnExactRootOf", inPlace := ["internal/abi.NoEscape", "internal/bytealg.MakeNoZero"], apart := false, narrowed := true }
def FnExactRootOfUptoSaid : Prop := fnExactRootOfUptoRow.holds Try.pinned (OpenSpec.upto fnExactRootOfSpec)

/-- 'laws.FnOrders', WHERE WHAT IT READS IS OF BULK AT MOST 1048576: true; the input reads as it did. -/
def fnOrdersUptoRow : OpenClaim := { program := "ytegkbpnbboicmaa", sum := "f1d11af10b89d2153880785a4488fed3c1ffa104c18a07d1d4d9d9418a043ee9", func := "loop.example/g03201/laws.FnOrders", spec := "fnOrders", inPlace := ["internal/bytealg.CountString", "internal/bytealg.IndexByteString", "internal/bytealg.IndexString"], named := ["internal/bytealg.MaxLen"], apart := false, narrowed := true }
def FnOrdersUptoSaid : Prop := fnOrdersUptoRow.holds Try.pinned (OpenSpec.upto fnOrdersSpec)

end Rows
end Go.Proofs.Ytegkbpnbboicmaa
