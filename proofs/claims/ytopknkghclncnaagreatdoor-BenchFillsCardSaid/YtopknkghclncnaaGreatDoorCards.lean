/-
  DERIVED. GIVEN WITH THE SEED: THE CARDS: each row of YtopknkghclncnaaGreatDoorRows.lean that lists a variable, with what it lists TIED to the program's text (the seventh form; the later family's looks); each row that meets fmt, with fmt's text TOLD by the authors' own Lean function (tested against real Go, not proved from fmt's source: count such statements apart). THE CARD IS WHAT COUNTS. Prove the row's statement (the work); the ties are given (YtopknkghclncnaaGreatDoorTie.lean); close each card by the builder's one call (the guide's Derived/Test/ToyasCard.lean, 'card_holds'). Laid BY PROGRAM, IN A SANDBOX (cutbox-door.mjs). By AI agents, Wed Nov 11 2026. No macro, syntax, notation, axiom, sorry.
-/
import Derived.Test.YtopknkghclncnaaGreatDoorRows
import GoSem.ClaimSeven
namespace Go.Proofs.YtopknkghclncnaaGreatDoor
namespace Rows

/-- THE TIED CARD OF 'decanilaw07.BenchCans'. -/
def benchCansCard : Claim7 := { stood := { row := benchCansRow, standIns := [], harness := (true, "e3839a7aab7b4dde9c5b06e61ef5cf6580f712f123d0fdf50ec235aa41c6b551"), looks := false }, kinds := [], alts := [], laidByText := true, laidKinds := [.data, .data, .funcs, .data], laidTests := true, laidLooks := .later }
def BenchCansCardSaid : Prop := Claim7.holds Tryz.pinned (.plain (OpenSpec.ofChange benchCansSpec)) benchCansCard

/-- THE TIED CARD OF 'decanilaw07.BenchFills'. -/
def benchFillsCard : Claim7 := { stood := { row := benchFillsRow, standIns := [], harness := (true, "e3839a7aab7b4dde9c5b06e61ef5cf6580f712f123d0fdf50ec235aa41c6b551"), looks := false }, kinds := [], alts := [], laidByText := true, laidKinds := [.data, .data, .funcs, .data], laidTests := true, laidLooks := .later }
def BenchFillsCardSaid : Prop := Claim7.holds Tryz.pinned (.plain (OpenSpec.ofChange benchFillsSpec)) benchFillsCard

/-- THE TIED CARD OF 'decanilaw07.BenchChanges'. -/
def benchChangesCard : Claim7 := { stood := { row := benchChangesRow, standIns := [], harness := (true, "e3839a7aab7b4dde9c5b06e61ef5cf6580f712f123d0fdf50ec235aa41c6b551"), looks := false }, kinds := [], alts := [], laidByText := true, laidKinds := [.data, .data, .funcs, .data], laidTests := true, laidLooks := .later }
def BenchChangesCardSaid : Prop := Claim7.holds Tryz.pinned (.plain (OpenSpec.ofChange benchChangesSpec)) benchChangesCard

/-- THE SECOND FORM's CARD OF 'decanilaw07.BenchCans'. -/
def benchCansUptoCard : Claim7 := { stood := { row := benchCansUptoRow, standIns := [], harness := (true, "e3839a7aab7b4dde9c5b06e61ef5cf6580f712f123d0fdf50ec235aa41c6b551"), looks := false }, kinds := [], alts := [], laidByText := true, laidKinds := [.data, .data, .funcs, .data], laidTests := true, laidLooks := .later }
def BenchCansUptoCardSaid : Prop := Claim7.holds Tryz.pinned (.plain (OpenSpec.upto benchCansSpec)) benchCansUptoCard

/-- THE SECOND FORM's CARD OF 'decanilaw07.BenchFills'. -/
def benchFillsUptoCard : Claim7 := { stood := { row := benchFillsUptoRow, standIns := [], harness := (true, "e3839a7aab7b4dde9c5b06e61ef5cf6580f712f123d0fdf50ec235aa41c6b551"), looks := false }, kinds := [], alts := [], laidByText := true, laidKinds := [.data, .data, .funcs, .data], laidTests := true, laidLooks := .later }
def BenchFillsUptoCardSaid : Prop := Claim7.holds Tryz.pinned (.plain (OpenSpec.upto benchFillsSpec)) benchFillsUptoCard

/-- THE SECOND FORM's CARD OF 'decanilaw07.BenchChanges'. -/
def benchChangesUptoCard : Claim7 := { stood := { row := benchChangesUptoRow, standIns := [], harness := (true, "e3839a7aab7b4dde9c5b06e61ef5cf6580f712f123d0fdf50ec235aa41c6b551"), looks := false }, kinds := [], alts := [], laidByText := true, laidKinds := [.data, .data, .funcs, .data], laidTests := true, laidLooks := .later }
def BenchChangesUptoCardSaid : Prop := Claim7.holds Tryz.pinned (.plain (OpenSpec.upto benchChangesSpec)) benchChangesUptoCard
end Rows
end Go.Proofs.YtopknkghclncnaaGreatDoor
