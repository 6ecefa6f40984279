/-
  DERIVED. GIVEN WITH THE SEED: THE CARDS: each row of YtooempbgpfhdcaaDoorRows.lean that lists a variable, with what it lists TIED to the program's text (the seventh form; the later family's looks); each row that meets fmt, with fmt's text TOLD by the authors' own Lean function (tested against real Go, not proved from fmt's source: count such statements apart). THE CARD IS WHAT COUNTS. Prove the row's statement (the work); the ties are given (YtooempbgpfhdcaaDoorTie.lean); close each card by the builder's one call (the guide's Derived/Test/ToyasCard.lean, 'card_holds'). Laid BY PROGRAM, IN A SANDBOX (cutbox-door.mjs). By AI agents, Wed Nov 11 2026. No macro, syntax, notation, axiom, sorry.
-/
import Derived.Test.YtooempbgpfhdcaaDoorRows
import GoSem.ClaimSeven
namespace Go.Proofs.YtooempbgpfhdcaaDoor
namespace Rows

/-- THE TIED CARD OF 'galleylaw19.WordsTexts'. -/
def wordsTextsCard : Claim7 := { stood := { row := wordsTextsRow, standIns := [], harness := (true, "114de35cb15f706c608979813dbd490f4cf87da325aed8c41b7905bfce0ad81f"), looks := false }, kinds := [], alts := [], laidByText := true, laidKinds := [.data, .pinned], laidTests := true, laidLooks := .later }
def WordsTextsCardSaid : Prop := Claim7.holds Tryd.pinned (.plain (OpenSpec.ofChange wordsTextsSpec)) wordsTextsCard

/-- THE TIED CARD OF 'galleylaw19.WordsNil'. -/
def wordsNilCard : Claim7 := { stood := { row := wordsNilRow, standIns := [], harness := (true, "114de35cb15f706c608979813dbd490f4cf87da325aed8c41b7905bfce0ad81f"), looks := false }, kinds := [], alts := [], laidByText := true, laidKinds := [.data, .pinned], laidTests := true, laidLooks := .later }
def WordsNilCardSaid : Prop := Claim7.holds Tryd.pinned (.plain (OpenSpec.ofChange wordsNilSpec)) wordsNilCard

/-- THE SECOND FORM's CARD OF 'galleylaw19.WordsTexts'. -/
def wordsTextsUptoCard : Claim7 := { stood := { row := wordsTextsUptoRow, standIns := [], harness := (true, "114de35cb15f706c608979813dbd490f4cf87da325aed8c41b7905bfce0ad81f"), looks := false }, kinds := [], alts := [], laidByText := true, laidKinds := [.data, .pinned], laidTests := true, laidLooks := .later }
def WordsTextsUptoCardSaid : Prop := Claim7.holds Tryd.pinned (.plain (OpenSpec.upto wordsTextsSpec)) wordsTextsUptoCard

/-- THE SECOND FORM's CARD OF 'galleylaw19.WordsNil'. -/
def wordsNilUptoCard : Claim7 := { stood := { row := wordsNilUptoRow, standIns := [], harness := (true, "114de35cb15f706c608979813dbd490f4cf87da325aed8c41b7905bfce0ad81f"), looks := false }, kinds := [], alts := [], laidByText := true, laidKinds := [.data, .pinned], laidTests := true, laidLooks := .later }
def WordsNilUptoCardSaid : Prop := Claim7.holds Tryd.pinned (.plain (OpenSpec.upto wordsNilSpec)) wordsNilUptoCard
end Rows
end Go.Proofs.YtooempbgpfhdcaaDoor
