/- The document's example. -/
import Derived.Test.YtefclodjekeeiaaGreatDoorCi
import Derived.KernelRfl
namespace Go.Proofs.YtefclodjekeeiaaGreatDoor
open Go Go.Mir
theorem c_known : c_law14_known 300 = some true := by kernel_rfl
theorem m_known : m_law14_known 300 = some true := c_law14_known_le 300 _ c_known
end Go.Proofs.YtefclodjekeeiaaGreatDoor
