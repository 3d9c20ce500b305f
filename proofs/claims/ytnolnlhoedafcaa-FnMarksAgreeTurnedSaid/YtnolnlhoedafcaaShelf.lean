/- The contracts of slices.Index and slices.Contains at this translation, laid by the shelf tools, in plain words. -/
import Derived.Shelf.Slices.Turned
import Derived.Shelf.Slices.Cells
import Derived.Shelf.Slices.Empties
import Derived.Test.YtnolnlhoedafcaaProg
namespace Go.Proofs
open Go.Shelf
end Go.Proofs
