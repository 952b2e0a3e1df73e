/- The document's example. -/
import Derived.Test.YtjkcinpmbgcgpaaGreatDoorMi
import Derived.KernelRfl
namespace Go.Proofs.YtjkcinpmbgcgpaaGreatDoor
open Go Go.Mir
theorem known_ok (g : Nat) : m_law09_known (g + 60) = some true := by kernel_rfl
end Go.Proofs.YtjkcinpmbgcgpaaGreatDoor
