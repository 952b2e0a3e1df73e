/- How the law's arguments read. -/
import Derived.Test.YtefclodjekeeiaaGreatDoorSyOp
import Derived.Test.YtefclodjekeeiaaGreatDoorKi
namespace Go.Proofs.YtefclodjekeeiaaGreatDoor
open Go Go.Sy Go.RowKit
set_option linter.unusedVariables false
theorem op9 (N : Nat) : OpensN Tryz.prog N 9 Kind.str (fun l => l.length ≤ 140737488351232) := opens_str Tryz.underlying9 N
end Go.Proofs.YtefclodjekeeiaaGreatDoor
