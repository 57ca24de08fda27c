/- One closed fact of the row: named. -/
import Derived.Test.YtjefbjfifjjpmafGreatDoorRows
import Derived.JoinedCond
import Derived.KernelRfl
namespace Go.Proofs.YtjefbjfifjjpmafGreatDoor.driverNil
theorem fact_named : (Rows.driverNilUptoRow.named == Tryz.prog.varsNamed 3) = true := by kernel_rfl
end Go.Proofs.YtjefbjfifjjpmafGreatDoor.driverNil
