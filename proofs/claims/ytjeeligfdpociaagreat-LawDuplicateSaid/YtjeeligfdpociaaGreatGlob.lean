/- The package-level variables that the statements lay. Written by mkglob.py. -/
import Derived.Test.YtjeeligfdpociaaGreatCut
import Derived.MapKept
namespace Go.Proofs.YtjeeligfdpociaaGreat
open Go Go.RowKit
abbrev rInt0 : Row := .int .i64
def globs : List (Nat × ((r : Row) × r.den)) := []
end Go.Proofs.YtjeeligfdpociaaGreat
