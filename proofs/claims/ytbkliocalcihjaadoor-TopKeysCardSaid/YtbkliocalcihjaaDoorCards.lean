/-
  DERIVED. GIVEN WITH THE SEED: THE CARDS: each row of YtbkliocalcihjaaDoorRows.lean that lists a variable, with what it lists TIED to the program's text (the seventh form; the later family's looks); each row that meets fmt, with fmt's text TOLD by the authors' own Lean function (tested against real Go, not proved from fmt's source: count such statements apart). THE CARD IS WHAT COUNTS. Prove the row's statement (the work); the ties are given (YtbkliocalcihjaaDoorTie.lean); close each card by the builder's one call (the guide's Derived/Test/ToyasCard.lean, 'card_holds'). Laid BY PROGRAM, IN A SANDBOX (cutbox-door.mjs). By AI agents, Wed Nov 11 2026. No macro, syntax, notation, axiom, sorry.
-/
import Derived.Test.YtbkliocalcihjaaDoorRows
import GoSem.ClaimSeven
namespace Go.Proofs.YtbkliocalcihjaaDoor
namespace Rows

/-- THE TIED CARD OF 'decanitop.TopKeys'. -/
def topKeysCard : Claim7 := { stood := { row := topKeysRow, standIns := [], harness := (true, "ab81e2df3265a2d7a67f0c5ff45dbe53abd30d9e79e0a2c69de6ad9ab95e8546"), looks := false }, kinds := [], alts := [], laidByText := true, laidKinds := [.data, .data, .data, .funcs, .data, .data, .data, .funcs], laidTests := true, laidLooks := .later }
def TopKeysCardSaid : Prop := Claim7.holds Tryd.pinned (.plain (OpenSpec.ofChange topKeysSpec)) topKeysCard

/-- THE SECOND FORM's CARD OF 'decanitop.TopKeys'. -/
def topKeysUptoCard : Claim7 := { stood := { row := topKeysUptoRow, standIns := [], harness := (true, "ab81e2df3265a2d7a67f0c5ff45dbe53abd30d9e79e0a2c69de6ad9ab95e8546"), looks := false }, kinds := [], alts := [], laidByText := true, laidKinds := [.data, .data, .data, .funcs, .data, .data, .data, .funcs], laidTests := true, laidLooks := .later }
def TopKeysUptoCardSaid : Prop := Claim7.holds Tryd.pinned (.plain (OpenSpec.upto topKeysSpec)) topKeysUptoCard
end Rows
end Go.Proofs.YtbkliocalcihjaaDoor
