/-
  DERIVED. GIVEN WITH THE SEED: THE CARDS: each row of YtncpeogkccjmcaaGreatDoorRows.lean that lists a variable, with what it lists TIED to the program's text (the seventh form; the later family's looks); each row that meets fmt, with fmt's text TOLD by the authors' own Lean function (tested against real Go, not proved from fmt's source: count such statements apart). THE CARD IS WHAT COUNTS. Prove the row's statement (the work); the ties are given (YtncpeogkccjmcaaGreatDoorTie.lean); close each card by the builder's one call (the guide's Derived/Test/ToyasCard.lean, 'card_holds'). Laid BY PROGRAM, IN A SANDBOX (cutbox-door.mjs). By AI agents, Wed Nov 11 2026. No macro, syntax, notation, axiom, sorry.
-/
import Derived.Test.YtncpeogkccjmcaaGreatDoorRows
import GoSem.ClaimSeven
namespace Go.Proofs.YtncpeogkccjmcaaGreatDoor
namespace Rows

/-- THE TIED CARD OF 'galleylaw29.TempsCleans'. -/
def tempsCleansCard : Claim7 := { stood := { row := tempsCleansRow, standIns := [], harness := (true, "2cae2236f943e60de2efbe9b708726c8f5c296681912b7b34718447f57bdef73"), looks := false }, kinds := [], alts := [], laidByText := true, laidKinds := [.data, .data, .data], laidTests := true, laidLooks := .later }
def TempsCleansCardSaid : Prop := Claim7.holds Tryz.pinned (.plain (OpenSpec.ofChange tempsCleansSpec)) tempsCleansCard

/-- THE SECOND FORM's CARD OF 'galleylaw29.TempsCleans'. -/
def tempsCleansUptoCard : Claim7 := { stood := { row := tempsCleansUptoRow, standIns := [], harness := (true, "2cae2236f943e60de2efbe9b708726c8f5c296681912b7b34718447f57bdef73"), looks := false }, kinds := [], alts := [], laidByText := true, laidKinds := [.data, .data, .data], laidTests := true, laidLooks := .later }
def TempsCleansUptoCardSaid : Prop := Claim7.holds Tryz.pinned (.plain (OpenSpec.upto tempsCleansSpec)) tempsCleansUptoCard
end Rows
end Go.Proofs.YtncpeogkccjmcaaGreatDoor
