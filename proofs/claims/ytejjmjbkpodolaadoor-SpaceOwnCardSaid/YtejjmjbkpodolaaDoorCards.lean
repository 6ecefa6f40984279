/-
  DERIVED. GIVEN WITH THE SEED: THE CARDS: each row of YtejjmjbkpodolaaDoorRows.lean that lists a variable, with what it lists TIED to the program's text (the seventh form; the later family's looks); each row that meets fmt, with fmt's text TOLD by the authors' own Lean function (tested against real Go, not proved from fmt's source: count such statements apart). THE CARD IS WHAT COUNTS. Prove the row's statement (the work); the ties are given (YtejjmjbkpodolaaDoorTie.lean); close each card by the builder's one call (the guide's Derived/Test/ToyasCard.lean, 'card_holds'). Laid BY PROGRAM, IN A SANDBOX (cutbox-door.mjs). By AI agents, Wed Nov 11 2026. No macro, syntax, notation, axiom, sorry.
-/
import Derived.Test.YtejjmjbkpodolaaDoorRows
import GoSem.ClaimSeven
namespace Go.Proofs.YtejjmjbkpodolaaDoor
namespace Rows

/-- THE TIED CARD OF 'galleylaw25.SpaceOwn'. -/
def spaceOwnCard : Claim7 := { stood := { row := spaceOwnRow, standIns := [], harness := (true, "269f1e3371c2ae6c735a022c84f6e7b4073e4dff7843921039dbd05afaab5636"), looks := false }, kinds := [], alts := [], laidByText := true, laidKinds := [.data, .data, .data], laidTests := true, laidLooks := .later }
def SpaceOwnCardSaid : Prop := Claim7.holds Tryd.pinned (.plain (OpenSpec.ofChange spaceOwnSpec)) spaceOwnCard

/-- THE SECOND FORM's CARD OF 'galleylaw25.SpaceOwn'. -/
def spaceOwnUptoCard : Claim7 := { stood := { row := spaceOwnUptoRow, standIns := [], harness := (true, "269f1e3371c2ae6c735a022c84f6e7b4073e4dff7843921039dbd05afaab5636"), looks := false }, kinds := [], alts := [], laidByText := true, laidKinds := [.data, .data, .data], laidTests := true, laidLooks := .later }
def SpaceOwnUptoCardSaid : Prop := Claim7.holds Tryd.pinned (.plain (OpenSpec.upto spaceOwnSpec)) spaceOwnUptoCard
end Rows
end Go.Proofs.YtejjmjbkpodolaaDoor
