/-
  DERIVED. GIVEN WITH THE SEED: THE CARDS: each row of YtohgomfnigdaoaaDoorRows.lean that lists a variable, with what it lists TIED to the program's text (the seventh form; the later family's looks); each row that meets fmt, with fmt's text TOLD by the authors' own Lean function (tested against real Go, not proved from fmt's source: count such statements apart). THE CARD IS WHAT COUNTS. Prove the row's statement (the work); the ties are given (YtohgomfnigdaoaaDoorTie.lean); close each card by the builder's one call (the guide's Derived/Test/ToyasCard.lean, 'card_holds'). Laid BY PROGRAM, IN A SANDBOX (cutbox-door.mjs). By AI agents, Wed Nov 11 2026. No macro, syntax, notation, axiom, sorry.
-/
import Derived.Test.YtohgomfnigdaoaaDoorRows
import GoSem.ClaimSeven
namespace Go.Proofs.YtohgomfnigdaoaaDoor
namespace Rows

/-- THE TIED CARD OF 'decanitop.TopWays'. -/
def topWaysCard : Claim7 := { stood := { row := topWaysRow, standIns := [], harness := (true, "b8c17979dd965bef683b121d8fd6b34953e23652d6a22a06a707617c976c5b6b"), looks := false }, kinds := [], alts := [], laidByText := true, laidKinds := [.data, .data, .funcs, .data, .data, .funcs, .data], laidTests := true, laidLooks := .later }
def TopWaysCardSaid : Prop := Claim7.holds Tryd.pinned (.plain (OpenSpec.ofChange topWaysSpec)) topWaysCard

/-- THE TIED CARD OF 'decanitop.TopHeir'. -/
def topHeirCard : Claim7 := { stood := { row := topHeirRow, standIns := [], harness := (true, "b8c17979dd965bef683b121d8fd6b34953e23652d6a22a06a707617c976c5b6b"), looks := false }, kinds := [], alts := [], laidByText := true, laidKinds := [.data, .data, .funcs, .data, .data, .funcs, .data], laidTests := true, laidLooks := .later }
def TopHeirCardSaid : Prop := Claim7.holds Tryd.pinned (.plain (OpenSpec.ofChange topHeirSpec)) topHeirCard

/-- THE SECOND FORM's CARD OF 'decanitop.TopWays'. -/
def topWaysUptoCard : Claim7 := { stood := { row := topWaysUptoRow, standIns := [], harness := (true, "b8c17979dd965bef683b121d8fd6b34953e23652d6a22a06a707617c976c5b6b"), looks := false }, kinds := [], alts := [], laidByText := true, laidKinds := [.data, .data, .funcs, .data, .data, .funcs, .data], laidTests := true, laidLooks := .later }
def TopWaysUptoCardSaid : Prop := Claim7.holds Tryd.pinned (.plain (OpenSpec.upto topWaysSpec)) topWaysUptoCard

/-- THE SECOND FORM's CARD OF 'decanitop.TopHeir'. -/
def topHeirUptoCard : Claim7 := { stood := { row := topHeirUptoRow, standIns := [], harness := (true, "b8c17979dd965bef683b121d8fd6b34953e23652d6a22a06a707617c976c5b6b"), looks := false }, kinds := [], alts := [], laidByText := true, laidKinds := [.data, .data, .funcs, .data, .data, .funcs, .data], laidTests := true, laidLooks := .later }
def TopHeirUptoCardSaid : Prop := Claim7.holds Tryd.pinned (.plain (OpenSpec.upto topHeirSpec)) topHeirUptoCard
end Rows
end Go.Proofs.YtohgomfnigdaoaaDoor
