/- The range of all hands. -/
import Derived.Test.YtikdkhiehfccpaaAgS0
namespace Go.Proofs.Ytikdkhiehfccpaa
open Go.RowKit Go.Sort Go.Shelf Cnt

/-- the range of all hands -/
def rgAll : Rg := ⟨0, 40, 0, 13, 0, 13, 0, 13, 0, 13⟩
end Go.Proofs.Ytikdkhiehfccpaa
