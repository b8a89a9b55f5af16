/- The package-level variables that the statements lay. Written by mkglob.py. -/
import Derived.Test.YtpgggmcpflgniaaDoorCut
import Derived.MapKept
namespace Go.Proofs.YtpgggmcpflgniaaDoor
open Go Go.RowKit
abbrev rInt0 : Row := .int .i64
def globs : List (Nat × ((r : Row) × r.den)) := [(2, ⟨.pair rInt0 (.pair rInt0 (.pair rInt0 (.pair rInt0 (.pair rInt0 (.pair rInt0 (.pair rInt0 (.pair rInt0 (.pair rInt0 (.pair rInt0 (.pair rInt0 rInt0)))))))))), (31, 28, 31, 30, 31, 30, 31, 31, 30, 31, 30, 31)⟩)]
end Go.Proofs.YtpgggmcpflgniaaDoor
