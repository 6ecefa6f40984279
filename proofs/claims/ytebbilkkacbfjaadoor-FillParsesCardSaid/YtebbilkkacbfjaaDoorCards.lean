/-
  DERIVED. GIVEN WITH THE SEED: THE CARDS: each row of YtebbilkkacbfjaaDoorRows.lean that lists a variable, with what it lists TIED to the program's text (the seventh form; the later family's looks); each row that meets fmt, with fmt's text TOLD by the authors' own Lean function (tested against real Go, not proved from fmt's source: count such statements apart). THE CARD IS WHAT COUNTS. Prove the row's statement (the work); the ties are given (YtebbilkkacbfjaaDoorTie.lean); close each card by the builder's one call (the guide's Derived/Test/ToyasCard.lean, 'card_holds'). Laid BY PROGRAM, IN A SANDBOX (cutbox-door.mjs). By AI agents, Wed Nov 11 2026. No macro, syntax, notation, axiom, sorry.
-/
import Derived.Test.YtebbilkkacbfjaaDoorRows
import GoSem.ClaimSeven
namespace Go.Proofs.YtebbilkkacbfjaaDoor
namespace Rows

/-- THE TIED CARD OF 'galleylaw16.FillParses'. -/
def fillParsesCard : Claim7 := { stood := { row := fillParsesRow, standIns := [], harness := (true, "0179237cdbf3556900f3b7192e72fdd16c073a0fb55331e2a0aba5683bf2d7c6"), looks := true }, kinds := [], alts := [], laidByText := true, laidKinds := [.data, .data, .data], laidTests := true, laidLooks := .later }
def FillParsesCardSaid : Prop := Claim7.holds Tryd.pinned (.plain (OpenSpec.ofChange fillParsesSpec)) fillParsesCard

/-- THE TIED CARD OF 'galleylaw16.FillExpands'. -/
def fillExpandsCard : Claim7 := { stood := { row := fillExpandsRow, standIns := [], harness := (true, "0179237cdbf3556900f3b7192e72fdd16c073a0fb55331e2a0aba5683bf2d7c6"), looks := true }, kinds := [], alts := [], laidByText := true, laidKinds := [.data, .data, .data], laidTests := true, laidLooks := .later }
def FillExpandsCardSaid : Prop := Claim7.holds Tryd.pinned (.plain (OpenSpec.ofChange fillExpandsSpec)) fillExpandsCard

/-- THE TIED CARD OF 'galleylaw16.FillAsks'. -/
def fillAsksCard : Claim7 := { stood := { row := fillAsksRow, standIns := [], harness := (true, "0179237cdbf3556900f3b7192e72fdd16c073a0fb55331e2a0aba5683bf2d7c6"), looks := true }, kinds := [], alts := [], laidByText := true, laidKinds := [.data, .data, .data], laidTests := true, laidLooks := .later }
def FillAsksCardSaid : Prop := Claim7.holds Tryd.pinned (.plain (OpenSpec.ofChange fillAsksSpec)) fillAsksCard

/-- THE SECOND FORM's CARD OF 'galleylaw16.FillParses'. -/
def fillParsesUptoCard : Claim7 := { stood := { row := fillParsesUptoRow, standIns := [], harness := (true, "0179237cdbf3556900f3b7192e72fdd16c073a0fb55331e2a0aba5683bf2d7c6"), looks := true }, kinds := [], alts := [], laidByText := true, laidKinds := [.data, .data, .data], laidTests := true, laidLooks := .later }
def FillParsesUptoCardSaid : Prop := Claim7.holds Tryd.pinned (.plain (OpenSpec.upto fillParsesSpec)) fillParsesUptoCard

/-- THE SECOND FORM's CARD OF 'galleylaw16.FillExpands'. -/
def fillExpandsUptoCard : Claim7 := { stood := { row := fillExpandsUptoRow, standIns := [], harness := (true, "0179237cdbf3556900f3b7192e72fdd16c073a0fb55331e2a0aba5683bf2d7c6"), looks := true }, kinds := [], alts := [], laidByText := true, laidKinds := [.data, .data, .data], laidTests := true, laidLooks := .later }
def FillExpandsUptoCardSaid : Prop := Claim7.holds Tryd.pinned (.plain (OpenSpec.upto fillExpandsSpec)) fillExpandsUptoCard

/-- THE SECOND FORM's CARD OF 'galleylaw16.FillAsks'. -/
def fillAsksUptoCard : Claim7 := { stood := { row := fillAsksUptoRow, standIns := [], harness := (true, "0179237cdbf3556900f3b7192e72fdd16c073a0fb55331e2a0aba5683bf2d7c6"), looks := true }, kinds := [], alts := [], laidByText := true, laidKinds := [.data, .data, .data], laidTests := true, laidLooks := .later }
def FillAsksUptoCardSaid : Prop := Claim7.holds Tryd.pinned (.plain (OpenSpec.upto fillAsksSpec)) fillAsksUptoCard
end Rows
end Go.Proofs.YtebbilkkacbfjaaDoor
