/- One closed fact of the row: recurses. -/
import Derived.Test.YtjefbjfifjjpmafGreatDoorRows
import Derived.JoinedCond
import Derived.KernelRfl
namespace Go.Proofs.YtjefbjfifjjpmafGreatDoor.driverNil
theorem fact_recurses : (Rows.driverNilUptoRow.recurses == Tryz.prog.recurses 3) = true := by kernel_rfl
end Go.Proofs.YtjefbjfifjjpmafGreatDoor.driverNil
