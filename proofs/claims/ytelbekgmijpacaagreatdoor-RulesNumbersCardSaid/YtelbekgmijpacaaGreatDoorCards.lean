/-
  DERIVED. GIVEN WITH THE SEED: THE CARDS: each row of YtelbekgmijpacaaGreatDoorRows.lean that lists a variable, with what it lists TIED to the program's text (the seventh form; the later family's looks); each row that meets fmt, with fmt's text TOLD by the authors' own Lean function (tested against real Go, not proved from fmt's source: count such statements apart). THE CARD IS WHAT COUNTS. Prove the row's statement (the work); the ties are given (YtelbekgmijpacaaGreatDoorTie.lean); close each card by the builder's one call (the guide's Derived/Test/ToyasCard.lean, 'card_holds'). Laid BY PROGRAM, IN A SANDBOX (cutbox-door.mjs). By AI agents, Wed Nov 11 2026. No macro, syntax, notation, axiom, sorry.
-/
import Derived.Test.YtelbekgmijpacaaGreatDoorRows
import GoSem.ClaimSeven
namespace Go.Proofs.YtelbekgmijpacaaGreatDoor
namespace Rows

/-- THE TIED CARD OF 'tollbooklaw19.RulesNumbers'. -/
def rulesNumbersCard : Claim7 := { stood := { row := rulesNumbersRow, standIns := [], harness := (true, "91739268a757cf4e7b6efcbc39f898b5c934013c6d9ca6216a3ede376ddc94c3"), looks := true }, kinds := [], alts := [], laidByText := true, laidKinds := [.data, .data, .data, .data, .listed, .data, .pinned], laidTests := true, laidLooks := .later }
def RulesNumbersCardSaid : Prop := Claim7.holds Tryz.pinned (.plain (OpenSpec.ofChange rulesNumbersSpec)) rulesNumbersCard

/-- THE TIED CARD OF 'tollbooklaw19.RulesNone'. -/
def rulesNoneCard : Claim7 := { stood := { row := rulesNoneRow, standIns := [], harness := (true, "91739268a757cf4e7b6efcbc39f898b5c934013c6d9ca6216a3ede376ddc94c3"), looks := true }, kinds := [], alts := [], laidByText := true, laidKinds := [.data, .data, .data, .data, .listed, .data, .pinned], laidTests := true, laidLooks := .later }
def RulesNoneCardSaid : Prop := Claim7.holds Tryz.pinned (.plain (OpenSpec.ofChange rulesNoneSpec)) rulesNoneCard

/-- THE SECOND FORM's CARD OF 'tollbooklaw19.RulesNumbers'. -/
def rulesNumbersUptoCard : Claim7 := { stood := { row := rulesNumbersUptoRow, standIns := [], harness := (true, "91739268a757cf4e7b6efcbc39f898b5c934013c6d9ca6216a3ede376ddc94c3"), looks := true }, kinds := [], alts := [], laidByText := true, laidKinds := [.data, .data, .data, .data, .listed, .data, .pinned], laidTests := true, laidLooks := .later }
def RulesNumbersUptoCardSaid : Prop := Claim7.holds Tryz.pinned (.plain (OpenSpec.upto rulesNumbersSpec)) rulesNumbersUptoCard

/-- THE SECOND FORM's CARD OF 'tollbooklaw19.RulesNone'. -/
def rulesNoneUptoCard : Claim7 := { stood := { row := rulesNoneUptoRow, standIns := [], harness := (true, "91739268a757cf4e7b6efcbc39f898b5c934013c6d9ca6216a3ede376ddc94c3"), looks := true }, kinds := [], alts := [], laidByText := true, laidKinds := [.data, .data, .data, .data, .listed, .data, .pinned], laidTests := true, laidLooks := .later }
def RulesNoneUptoCardSaid : Prop := Claim7.holds Tryz.pinned (.plain (OpenSpec.upto rulesNoneSpec)) rulesNoneUptoCard
end Rows
end Go.Proofs.YtelbekgmijpacaaGreatDoor
