/- How the law's arguments read. -/
import Derived.Test.YtchecaeeiejjjaaSyOp
import Derived.Test.YtchecaeeiejjjaaKiR
namespace Go.Proofs.Ytchecaeeiejjjaa
open Go Go.Sy Go.RowKit
set_option linter.unusedVariables false
theorem op9 (N : Nat) : OpensN Try.prog N 9 Kind.str (fun l => l.length ≤ 140737488351232) := opens_str Try.underlying9 N
end Go.Proofs.Ytchecaeeiejjjaa
