/- One closed fact of the row: inPlace. -/
import Derived.Test.YtjefbjfifjjpmafGreatDoorRows
import Derived.JoinedCond
import Derived.KernelRfl
namespace Go.Proofs.YtjefbjfifjjpmafGreatDoor.driverNil
theorem fact_inPlace : (Rows.driverNilUptoRow.inPlace == Tryz.prog.inPlace 3) = true := by kernel_rfl
end Go.Proofs.YtjefbjfifjjpmafGreatDoor.driverNil
