/-
  DERIVED. GIVEN WITH THE SEED: THE CARDS: each row of YtkdccehihpgcdaaDoorRows.lean that lists a variable, with what it lists TIED to the program's text (the seventh form; the later family's looks); each row that meets fmt, with fmt's text TOLD by the authors' own Lean function (tested against real Go, not proved from fmt's source: count such statements apart). THE CARD IS WHAT COUNTS. Prove the row's statement (the work); the ties are given (YtkdccehihpgcdaaDoorTie.lean); close each card by the builder's one call (the guide's Derived/Test/ToyasCard.lean, 'card_holds'). Laid BY PROGRAM, IN A SANDBOX (cutbox-door.mjs). By AI agents, Wed Nov 11 2026. No macro, syntax, notation, axiom, sorry.
-/
import Derived.Test.YtkdccehihpgcdaaDoorRows
import GoSem.ClaimSeven
namespace Go.Proofs.YtkdccehihpgcdaaDoor
namespace Rows

/-- THE TIED CARD OF 'laws.FnExactFormatInt'. -/
def fnExactFormatIntCard : Claim7 := { stood := { row := fnExactFormatIntRow, standIns := [], harness := (true, "f19e53ecbe88d91b62d15999f4a1dd513ac6ffd0988e10997b68651d63559d15"), looks := true }, kinds := [], alts := [], laidByText := true, laidKinds := [.data, .data, .data], laidTests := true, laidLooks := .later }
def FnExactFormatIntCardSaid : Prop := Claim7.holds Tryd.pinned (.plain (OpenSpec.ofChange fnExactFormatIntSpec)) fnExactFormatIntCard

/-- THE TIED CARD OF 'laws.FnExactParseInt'. -/
def fnExactParseIntCard : Claim7 := { stood := { row := fnExactParseIntRow, standIns := [], harness := (true, "f19e53ecbe88d91b62d15999f4a1dd513ac6ffd0988e10997b68651d63559d15"), looks := true }, kinds := [], alts := [], laidByText := true, laidKinds := [.data, .data, .data, .sentinel, .sentinel], laidTests := true, laidLooks := .later }
def FnExactParseIntCardSaid : Prop := Claim7.holds Tryd.pinned (.plain (OpenSpec.ofChange fnExactParseIntSpec)) fnExactParseIntCard

/-- THE TIED CARD OF 'laws.FnWords'. -/
def fnWordsCard : Claim7 := { stood := { row := fnWordsRow, standIns := [], harness := (true, "f19e53ecbe88d91b62d15999f4a1dd513ac6ffd0988e10997b68651d63559d15"), looks := true }, kinds := [], alts := [], laidByText := true, laidKinds := [.data, .data, .data, .data, .sentinel, .sentinel, .pinned], laidTests := true, laidLooks := .later }
def FnWordsCardSaid : Prop := Claim7.holds Tryd.pinned (.plain (OpenSpec.ofChange fnWordsSpec)) fnWordsCard

/-- THE TIED CARD OF 'laws.FnExactSplitLines'. -/
def fnExactSplitLinesCard : Claim7 := { stood := { row := fnExactSplitLinesRow, standIns := [], harness := (true, "f19e53ecbe88d91b62d15999f4a1dd513ac6ffd0988e10997b68651d63559d15"), looks := true }, kinds := [], alts := [], laidByText := true, laidKinds := [.data, .pinned], laidTests := true, laidLooks := .later }
def FnExactSplitLinesCardSaid : Prop := Claim7.holds Tryd.pinned (.plain (OpenSpec.ofChange fnExactSplitLinesSpec)) fnExactSplitLinesCard

/-- THE TIED CARD OF 'laws.FnExactFormatSystem'. -/
def fnExactFormatSystemCard : Claim7 := { stood := { row := fnExactFormatSystemRow, standIns := [], harness := (true, "f19e53ecbe88d91b62d15999f4a1dd513ac6ffd0988e10997b68651d63559d15"), looks := true }, kinds := [], alts := [], laidByText := true, laidKinds := [.data, .data, .data], laidTests := true, laidLooks := .later }
def FnExactFormatSystemCardSaid : Prop := Claim7.holds Tryd.pinned (.plain (OpenSpec.ofChange fnExactFormatSystemSpec)) fnExactFormatSystemCard

/-- THE TIED CARD OF 'laws.FnExactParseSystem'. -/
def fnExactParseSystemCard : Claim7 := { stood := { row := fnExactParseSystemRow, standIns := [], harness := (true, "f19e53ecbe88d91b62d15999f4a1dd513ac6ffd0988e10997b68651d63559d15"), looks := true }, kinds := [], alts := [], laidByText := true, laidKinds := [.data, .data, .data, .data, .sentinel, .sentinel, .pinned], laidTests := true, laidLooks := .later }
def FnExactParseSystemCardSaid : Prop := Claim7.holds Tryd.pinned (.plain (OpenSpec.ofChange fnExactParseSystemSpec)) fnExactParseSystemCard

/-- THE SECOND FORM's CARD OF 'laws.FnExactFormatInt'. -/
def fnExactFormatIntUptoCard : Claim7 := { stood := { row := fnExactFormatIntUptoRow, standIns := [], harness := (true, "f19e53ecbe88d91b62d15999f4a1dd513ac6ffd0988e10997b68651d63559d15"), looks := true }, kinds := [], alts := [], laidByText := true, laidKinds := [.data, .data, .data], laidTests := true, laidLooks := .later }
def FnExactFormatIntUptoCardSaid : Prop := Claim7.holds Tryd.pinned (.plain (OpenSpec.upto fnExactFormatIntSpec)) fnExactFormatIntUptoCard

/-- THE SECOND FORM's CARD OF 'laws.FnExactParseInt'. -/
def fnExactParseIntUptoCard : Claim7 := { stood := { row := fnExactParseIntUptoRow, standIns := [], harness := (true, "f19e53ecbe88d91b62d15999f4a1dd513ac6ffd0988e10997b68651d63559d15"), looks := true }, kinds := [], alts := [], laidByText := true, laidKinds := [.data, .data, .data, .sentinel, .sentinel], laidTests := true, laidLooks := .later }
def FnExactParseIntUptoCardSaid : Prop := Claim7.holds Tryd.pinned (.plain (OpenSpec.upto fnExactParseIntSpec)) fnExactParseIntUptoCard

/-- THE SECOND FORM's CARD OF 'laws.FnWords'. -/
def fnWordsUptoCard : Claim7 := { stood := { row := fnWordsUptoRow, standIns := [], harness := (true, "f19e53ecbe88d91b62d15999f4a1dd513ac6ffd0988e10997b68651d63559d15"), looks := true }, kinds := [], alts := [], laidByText := true, laidKinds := [.data, .data, .data, .data, .sentinel, .sentinel, .pinned], laidTests := true, laidLooks := .later }
def FnWordsUptoCardSaid : Prop := Claim7.holds Tryd.pinned (.plain (OpenSpec.upto fnWordsSpec)) fnWordsUptoCard

/-- THE SECOND FORM's CARD OF 'laws.FnExactSplitLines'. -/
def fnExactSplitLinesUptoCard : Claim7 := { stood := { row := fnExactSplitLinesUptoRow, standIns := [], harness := (true, "f19e53ecbe88d91b62d15999f4a1dd513ac6ffd0988e10997b68651d63559d15"), looks := true }, kinds := [], alts := [], laidByText := true, laidKinds := [.data, .pinned], laidTests := true, laidLooks := .later }
def FnExactSplitLinesUptoCardSaid : Prop := Claim7.holds Tryd.pinned (.plain (OpenSpec.upto fnExactSplitLinesSpec)) fnExactSplitLinesUptoCard

/-- THE SECOND FORM's CARD OF 'laws.FnExactFormatSystem'. -/
def fnExactFormatSystemUptoCard : Claim7 := { stood := { row := fnExactFormatSystemUptoRow, standIns := [], harness := (true, "f19e53ecbe88d91b62d15999f4a1dd513ac6ffd0988e10997b68651d63559d15"), looks := true }, kinds := [], alts := [], laidByText := true, laidKinds := [.data, .data, .data], laidTests := true, laidLooks := .later }
def FnExactFormatSystemUptoCardSaid : Prop := Claim7.holds Tryd.pinned (.plain (OpenSpec.upto fnExactFormatSystemSpec)) fnExactFormatSystemUptoCard

/-- THE SECOND FORM's CARD OF 'laws.FnExactParseSystem'. -/
def fnExactParseSystemUptoCard : Claim7 := { stood := { row := fnExactParseSystemUptoRow, standIns := [], harness := (true, "f19e53ecbe88d91b62d15999f4a1dd513ac6ffd0988e10997b68651d63559d15"), looks := true }, kinds := [], alts := [], laidByText := true, laidKinds := [.data, .data, .data, .data, .sentinel, .sentinel, .pinned], laidTests := true, laidLooks := .later }
def FnExactParseSystemUptoCardSaid : Prop := Claim7.holds Tryd.pinned (.plain (OpenSpec.upto fnExactParseSystemSpec)) fnExactParseSystemUptoCard
end Rows
end Go.Proofs.YtkdccehihpgcdaaDoor
