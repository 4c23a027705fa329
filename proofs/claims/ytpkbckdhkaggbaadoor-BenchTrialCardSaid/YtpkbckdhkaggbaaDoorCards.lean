/-
  DERIVED. GIVEN WITH THE SEED: THE CARDS: each row of YtpkbckdhkaggbaaDoorRows.lean that lists a variable, with what it lists TIED to the program's text (the seventh form; the later family's looks); each row that meets fmt, with fmt's text TOLD by the authors' own Lean function (tested against real Go, not proved from fmt's source: count such statements apart). THE CARD IS WHAT COUNTS. Prove the row's statement (the work); the ties are given (YtpkbckdhkaggbaaDoorTie.lean); close each card by the builder's one call (the guide's Derived/Test/ToyasCard.lean, 'card_holds'). Laid BY PROGRAM, IN A SANDBOX (cutbox-door.mjs). By AI agents, Wed Nov 11 2026. No macro, syntax, notation, axiom, sorry.
-/
import Derived.Test.YtpkbckdhkaggbaaDoorRows
import GoSem.ClaimSeven
namespace Go.Proofs.YtpkbckdhkaggbaaDoor
namespace Rows

/-- THE TIED CARD OF 'decanilaw07.BenchCan'. -/
def benchCanCard : Claim7 := { stood := { row := benchCanRow, standIns := [], harness := (true, "2c633dce94f0999f2fe6c3d05ad4dd3aae2378def484f4f3c0d279a8a08161d5"), looks := false }, kinds := [], alts := [], laidByText := true, laidKinds := [.data, .data, .funcs, .data], laidTests := true, laidLooks := .later }
def BenchCanCardSaid : Prop := Claim7.holds Tryd.pinned (.plain (OpenSpec.ofChange benchCanSpec)) benchCanCard

/-- THE TIED CARD OF 'decanilaw07.BenchNeed'. -/
def benchNeedCard : Claim7 := { stood := { row := benchNeedRow, standIns := [], harness := (true, "2c633dce94f0999f2fe6c3d05ad4dd3aae2378def484f4f3c0d279a8a08161d5"), looks := false }, kinds := [], alts := [], laidByText := true, laidKinds := [.data, .data, .funcs, .data], laidTests := true, laidLooks := .later }
def BenchNeedCardSaid : Prop := Claim7.holds Tryd.pinned (.plain (OpenSpec.ofChange benchNeedSpec)) benchNeedCard

/-- THE TIED CARD OF 'decanilaw07.BenchTrial'. -/
def benchTrialCard : Claim7 := { stood := { row := benchTrialRow, standIns := [], harness := (true, "2c633dce94f0999f2fe6c3d05ad4dd3aae2378def484f4f3c0d279a8a08161d5"), looks := false }, kinds := [], alts := [], laidByText := true, laidKinds := [.data, .data, .funcs, .data], laidTests := true, laidLooks := .later }
def BenchTrialCardSaid : Prop := Claim7.holds Tryd.pinned (.plain (OpenSpec.ofChange benchTrialSpec)) benchTrialCard

/-- THE SECOND FORM's CARD OF 'decanilaw07.BenchCan'. -/
def benchCanUptoCard : Claim7 := { stood := { row := benchCanUptoRow, standIns := [], harness := (true, "2c633dce94f0999f2fe6c3d05ad4dd3aae2378def484f4f3c0d279a8a08161d5"), looks := false }, kinds := [], alts := [], laidByText := true, laidKinds := [.data, .data, .funcs, .data], laidTests := true, laidLooks := .later }
def BenchCanUptoCardSaid : Prop := Claim7.holds Tryd.pinned (.plain (OpenSpec.upto benchCanSpec)) benchCanUptoCard

/-- THE SECOND FORM's CARD OF 'decanilaw07.BenchNeed'. -/
def benchNeedUptoCard : Claim7 := { stood := { row := benchNeedUptoRow, standIns := [], harness := (true, "2c633dce94f0999f2fe6c3d05ad4dd3aae2378def484f4f3c0d279a8a08161d5"), looks := false }, kinds := [], alts := [], laidByText := true, laidKinds := [.data, .data, .funcs, .data], laidTests := true, laidLooks := .later }
def BenchNeedUptoCardSaid : Prop := Claim7.holds Tryd.pinned (.plain (OpenSpec.upto benchNeedSpec)) benchNeedUptoCard

/-- THE SECOND FORM's CARD OF 'decanilaw07.BenchTrial'. -/
def benchTrialUptoCard : Claim7 := { stood := { row := benchTrialUptoRow, standIns := [], harness := (true, "2c633dce94f0999f2fe6c3d05ad4dd3aae2378def484f4f3c0d279a8a08161d5"), looks := false }, kinds := [], alts := [], laidByText := true, laidKinds := [.data, .data, .funcs, .data], laidTests := true, laidLooks := .later }
def BenchTrialUptoCardSaid : Prop := Claim7.holds Tryd.pinned (.plain (OpenSpec.upto benchTrialSpec)) benchTrialUptoCard
end Rows
end Go.Proofs.YtpkbckdhkaggbaaDoor
