/-
  DERIVED. GIVEN WITH THE SEED: THE CARDS: each row of YtdjddljglkeefaaDoorRows.lean that lists a variable, with what it lists TIED to the program's text (the seventh form; the later family's looks); each row that meets fmt, with fmt's text TOLD by the authors' own Lean function (tested against real Go, not proved from fmt's source: count such statements apart). THE CARD IS WHAT COUNTS. Prove the row's statement (the work); the ties are given (YtdjddljglkeefaaDoorTie.lean); close each card by the builder's one call (the guide's Derived/Test/ToyasCard.lean, 'card_holds'). Laid BY PROGRAM, IN A SANDBOX (cutbox-door.mjs). By AI agents, Wed Nov 11 2026. No macro, syntax, notation, axiom, sorry.
-/
import Derived.Test.YtdjddljglkeefaaDoorRows
import GoSem.ClaimSeven
namespace Go.Proofs.YtdjddljglkeefaaDoor
namespace Rows

/-- THE TIED CARD OF 'decanilaw07.BenchRules'. -/
def benchRulesCard : Claim7 := { stood := { row := benchRulesRow, standIns := [], harness := (true, "073764dfe6863a643680e5818fd4d28f6b3457970011a3b213021335b9b227a4"), looks := false }, kinds := [], alts := [], laidByText := true, laidKinds := [.data, .data, .funcs, .data], laidTests := true, laidLooks := .later }
def BenchRulesCardSaid : Prop := Claim7.holds Tryd.pinned (.plain (OpenSpec.ofChange benchRulesSpec)) benchRulesCard

/-- THE TIED CARD OF 'decanilaw07.BenchTrue'. -/
def benchTrueCard : Claim7 := { stood := { row := benchTrueRow, standIns := [], harness := (true, "073764dfe6863a643680e5818fd4d28f6b3457970011a3b213021335b9b227a4"), looks := false }, kinds := [], alts := [], laidByText := true, laidKinds := [.data, .data, .funcs, .data], laidTests := true, laidLooks := .later }
def BenchTrueCardSaid : Prop := Claim7.holds Tryd.pinned (.plain (OpenSpec.ofChange benchTrueSpec)) benchTrueCard

/-- THE TIED CARD OF 'decanilaw07.BenchFill'. -/
def benchFillCard : Claim7 := { stood := { row := benchFillRow, standIns := [], harness := (true, "073764dfe6863a643680e5818fd4d28f6b3457970011a3b213021335b9b227a4"), looks := false }, kinds := [], alts := [], laidByText := true, laidKinds := [.data, .data, .funcs, .data], laidTests := true, laidLooks := .later }
def BenchFillCardSaid : Prop := Claim7.holds Tryd.pinned (.plain (OpenSpec.ofChange benchFillSpec)) benchFillCard

/-- THE TIED CARD OF 'decanilaw07.BenchChange'. -/
def benchChangeCard : Claim7 := { stood := { row := benchChangeRow, standIns := [], harness := (true, "073764dfe6863a643680e5818fd4d28f6b3457970011a3b213021335b9b227a4"), looks := false }, kinds := [], alts := [], laidByText := true, laidKinds := [.data, .data, .funcs, .data], laidTests := true, laidLooks := .later }
def BenchChangeCardSaid : Prop := Claim7.holds Tryd.pinned (.plain (OpenSpec.ofChange benchChangeSpec)) benchChangeCard

/-- THE TIED CARD OF 'decanilaw07.BenchLack'. -/
def benchLackCard : Claim7 := { stood := { row := benchLackRow, standIns := [], harness := (true, "073764dfe6863a643680e5818fd4d28f6b3457970011a3b213021335b9b227a4"), looks := false }, kinds := [], alts := [], laidByText := true, laidKinds := [.data, .data, .funcs, .data], laidTests := true, laidLooks := .later }
def BenchLackCardSaid : Prop := Claim7.holds Tryd.pinned (.plain (OpenSpec.ofChange benchLackSpec)) benchLackCard

/-- THE SECOND FORM's CARD OF 'decanilaw07.BenchRules'. -/
def benchRulesUptoCard : Claim7 := { stood := { row := benchRulesUptoRow, standIns := [], harness := (true, "073764dfe6863a643680e5818fd4d28f6b3457970011a3b213021335b9b227a4"), looks := false }, kinds := [], alts := [], laidByText := true, laidKinds := [.data, .data, .funcs, .data], laidTests := true, laidLooks := .later }
def BenchRulesUptoCardSaid : Prop := Claim7.holds Tryd.pinned (.plain (OpenSpec.upto benchRulesSpec)) benchRulesUptoCard

/-- THE SECOND FORM's CARD OF 'decanilaw07.BenchTrue'. -/
def benchTrueUptoCard : Claim7 := { stood := { row := benchTrueUptoRow, standIns := [], harness := (true, "073764dfe6863a643680e5818fd4d28f6b3457970011a3b213021335b9b227a4"), looks := false }, kinds := [], alts := [], laidByText := true, laidKinds := [.data, .data, .funcs, .data], laidTests := true, laidLooks := .later }
def BenchTrueUptoCardSaid : Prop := Claim7.holds Tryd.pinned (.plain (OpenSpec.upto benchTrueSpec)) benchTrueUptoCard

/-- THE SECOND FORM's CARD OF 'decanilaw07.BenchFill'. -/
def benchFillUptoCard : Claim7 := { stood := { row := benchFillUptoRow, standIns := [], harness := (true, "073764dfe6863a643680e5818fd4d28f6b3457970011a3b213021335b9b227a4"), looks := false }, kinds := [], alts := [], laidByText := true, laidKinds := [.data, .data, .funcs, .data], laidTests := true, laidLooks := .later }
def BenchFillUptoCardSaid : Prop := Claim7.holds Tryd.pinned (.plain (OpenSpec.upto benchFillSpec)) benchFillUptoCard

/-- THE SECOND FORM's CARD OF 'decanilaw07.BenchChange'. -/
def benchChangeUptoCard : Claim7 := { stood := { row := benchChangeUptoRow, standIns := [], harness := (true, "073764dfe6863a643680e5818fd4d28f6b3457970011a3b213021335b9b227a4"), looks := false }, kinds := [], alts := [], laidByText := true, laidKinds := [.data, .data, .funcs, .data], laidTests := true, laidLooks := .later }
def BenchChangeUptoCardSaid : Prop := Claim7.holds Tryd.pinned (.plain (OpenSpec.upto benchChangeSpec)) benchChangeUptoCard

/-- THE SECOND FORM's CARD OF 'decanilaw07.BenchLack'. -/
def benchLackUptoCard : Claim7 := { stood := { row := benchLackUptoRow, standIns := [], harness := (true, "073764dfe6863a643680e5818fd4d28f6b3457970011a3b213021335b9b227a4"), looks := false }, kinds := [], alts := [], laidByText := true, laidKinds := [.data, .data, .funcs, .data], laidTests := true, laidLooks := .later }
def BenchLackUptoCardSaid : Prop := Claim7.holds Tryd.pinned (.plain (OpenSpec.upto benchLackSpec)) benchLackUptoCard
end Rows
end Go.Proofs.YtdjddljglkeefaaDoor
