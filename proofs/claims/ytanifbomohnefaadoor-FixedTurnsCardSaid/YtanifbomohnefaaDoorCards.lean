/-
  DERIVED. GIVEN WITH THE SEED: THE CARDS: each row of YtanifbomohnefaaDoorRows.lean that lists a variable, with what it lists TIED to the program's text (the seventh form; the later family's looks); each row that meets fmt, with fmt's text TOLD by the authors' own Lean function (tested against real Go, not proved from fmt's source: count such statements apart). THE CARD IS WHAT COUNTS. Prove the row's statement (the work); the ties are given (YtanifbomohnefaaDoorTie.lean); close each card by the builder's one call (the guide's Derived/Test/ToyasCard.lean, 'card_holds'). Laid BY PROGRAM, IN A SANDBOX (cutbox-door.mjs). By AI agents, Wed Nov 11 2026. No macro, syntax, notation, axiom, sorry.
-/
import Derived.Test.YtanifbomohnefaaDoorRows
import GoSem.ClaimSeven
namespace Go.Proofs.YtanifbomohnefaaDoor
namespace Rows

/-- THE TIED CARD OF 'perilunelaw16.FixedTurns'. -/
def fixedTurnsCard : Claim7 := { stood := { row := fixedTurnsRow, standIns := [], harness := (true, "026b53cabb2e77365cd9474267f593e30bdeec00f0143f744c8b15b6b19bb354"), looks := false }, kinds := [], alts := [], laidByText := true, laidKinds := [.data], laidTests := true, laidLooks := .later }
def FixedTurnsCardSaid : Prop := Claim7.holds Tryd.pinned (.plain (OpenSpec.ofChange fixedTurnsSpec)) fixedTurnsCard

/-- THE SECOND FORM's CARD OF 'perilunelaw16.FixedTurns'. -/
def fixedTurnsUptoCard : Claim7 := { stood := { row := fixedTurnsUptoRow, standIns := [], harness := (true, "026b53cabb2e77365cd9474267f593e30bdeec00f0143f744c8b15b6b19bb354"), looks := false }, kinds := [], alts := [], laidByText := true, laidKinds := [.data], laidTests := true, laidLooks := .later }
def FixedTurnsUptoCardSaid : Prop := Claim7.holds Tryd.pinned (.plain (OpenSpec.upto fixedTurnsSpec)) fixedTurnsUptoCard
end Rows
end Go.Proofs.YtanifbomohnefaaDoor
