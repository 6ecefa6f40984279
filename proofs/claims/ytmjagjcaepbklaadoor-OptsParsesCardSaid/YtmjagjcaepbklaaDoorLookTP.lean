/- The looks at texts and at parts, as a bag of any kinds asks them. Condition: the table of powers of ten. -/
import Derived.Test.YtmjagjcaepbklaaDoorBagG
import Derived.Test.YtmjagjcaepbklaaDoorBagTexts
import Derived.Test.YtmjagjcaepbklaaDoorBagParts
namespace Go.Proofs.YtmjagjcaepbklaaDoor
open Go.RowKit

theorem looked_texts : Looked Pow 3 := fun gb gB cB N As ks cs w base h1 h2 h3 h4 h5 h6 h7 h8 h9 h10 h11 => apartTexts_any gb gB cB N As ks cs w base h1 h2 h3 h4 h5 h6 h7 h8 h9 h10 h11
theorem looked_parts : Looked Pow 12 := fun gb gB cB N As ks cs w base h1 h2 h3 h4 h5 h6 h7 h8 h9 h10 h11 => apartParts_any gb gB cB N As ks cs w base h1 h2 h3 h4 h5 h6 h7 h8 h9 h10 h11
end Go.Proofs.YtmjagjcaepbklaaDoor
