/-
  DERIVED. GIVEN WITH THE SEED: THE CARDS: each row of YtnpideapdjomgaaDoorRows.lean that lists a variable, with what it lists TIED to the program's text (the seventh form; the later family's looks); each row that meets fmt, with fmt's text TOLD by the authors' own Lean function (tested against real Go, not proved from fmt's source: count such statements apart). THE CARD IS WHAT COUNTS. Prove the row's statement (the work); the ties are given (YtnpideapdjomgaaDoorTie.lean); close each card by the builder's one call (the guide's Derived/Test/ToyasCard.lean, 'card_holds'). Laid BY PROGRAM, IN A SANDBOX (cutbox-door.mjs). By AI agents, Wed Nov 11 2026. No macro, syntax, notation, axiom, sorry.
-/
import Derived.Test.YtnpideapdjomgaaDoorRows
import GoSem.ClaimSeven
namespace Go.Proofs.YtnpideapdjomgaaDoor
namespace Rows

/-- THE TIED CARD OF 'galleylaw22.ResolveBlocks'. -/
def resolveBlocksCard : Claim7 := { stood := { row := resolveBlocksRow, standIns := [], harness := (true, "1e5f04d56273d5944933b7fb1980c5e8bcf936c5b7b832efe3cc2725a7fbad75"), looks := true }, kinds := [], alts := [], laidByText := true, laidKinds := [.data, .pinned], laidTests := true, laidLooks := .later }
def ResolveBlocksCardSaid : Prop := Claim7.holds Tryd.pinned (.plain (OpenSpec.ofChange resolveBlocksSpec)) resolveBlocksCard

/-- THE TIED CARD OF 'galleylaw22.ResolveLonger'. -/
def resolveLongerCard : Claim7 := { stood := { row := resolveLongerRow, standIns := [], harness := (true, "1e5f04d56273d5944933b7fb1980c5e8bcf936c5b7b832efe3cc2725a7fbad75"), looks := true }, kinds := [], alts := [], laidByText := true, laidKinds := [.data, .pinned], laidTests := true, laidLooks := .later }
def ResolveLongerCardSaid : Prop := Claim7.holds Tryd.pinned (.plain (OpenSpec.ofChange resolveLongerSpec)) resolveLongerCard

/-- THE TIED CARD OF 'galleylaw22.ResolveAgain'. -/
def resolveAgainCard : Claim7 := { stood := { row := resolveAgainRow, standIns := [], harness := (true, "1e5f04d56273d5944933b7fb1980c5e8bcf936c5b7b832efe3cc2725a7fbad75"), looks := true }, kinds := [], alts := [], laidByText := true, laidKinds := [.data, .pinned], laidTests := true, laidLooks := .later }
def ResolveAgainCardSaid : Prop := Claim7.holds Tryd.pinned (.plain (OpenSpec.ofChange resolveAgainSpec)) resolveAgainCard

/-- THE SECOND FORM's CARD OF 'galleylaw22.ResolveBlocks'. -/
def resolveBlocksUptoCard : Claim7 := { stood := { row := resolveBlocksUptoRow, standIns := [], harness := (true, "1e5f04d56273d5944933b7fb1980c5e8bcf936c5b7b832efe3cc2725a7fbad75"), looks := true }, kinds := [], alts := [], laidByText := true, laidKinds := [.data, .pinned], laidTests := true, laidLooks := .later }
def ResolveBlocksUptoCardSaid : Prop := Claim7.holds Tryd.pinned (.plain (OpenSpec.upto resolveBlocksSpec)) resolveBlocksUptoCard

/-- THE SECOND FORM's CARD OF 'galleylaw22.ResolveLonger'. -/
def resolveLongerUptoCard : Claim7 := { stood := { row := resolveLongerUptoRow, standIns := [], harness := (true, "1e5f04d56273d5944933b7fb1980c5e8bcf936c5b7b832efe3cc2725a7fbad75"), looks := true }, kinds := [], alts := [], laidByText := true, laidKinds := [.data, .pinned], laidTests := true, laidLooks := .later }
def ResolveLongerUptoCardSaid : Prop := Claim7.holds Tryd.pinned (.plain (OpenSpec.upto resolveLongerSpec)) resolveLongerUptoCard

/-- THE SECOND FORM's CARD OF 'galleylaw22.ResolveAgain'. -/
def resolveAgainUptoCard : Claim7 := { stood := { row := resolveAgainUptoRow, standIns := [], harness := (true, "1e5f04d56273d5944933b7fb1980c5e8bcf936c5b7b832efe3cc2725a7fbad75"), looks := true }, kinds := [], alts := [], laidByText := true, laidKinds := [.data, .pinned], laidTests := true, laidLooks := .later }
def ResolveAgainUptoCardSaid : Prop := Claim7.holds Tryd.pinned (.plain (OpenSpec.upto resolveAgainSpec)) resolveAgainUptoCard
end Rows
end Go.Proofs.YtnpideapdjomgaaDoor
