/- The package-level variables that the statements lay: none. -/
import Derived.Test.YtbhfmiaboidhnaaCut
import Derived.MapKept
namespace Go.Proofs.Ytbhfmiaboidhnaa
open Go Go.RowKit
def globs : List (Nat × ((r : Row) × r.den)) := []
end Go.Proofs.Ytbhfmiaboidhnaa
