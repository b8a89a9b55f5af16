/- The package-level variables that the statements lay: none. -/
import Derived.Test.YtacochphlicngaaCut
import Derived.MapKept
namespace Go.Proofs.Ytacochphlicngaa
open Go Go.RowKit
def globs : List (Nat × ((r : Row) × r.den)) := []
end Go.Proofs.Ytacochphlicngaa
