/- One closed fact of the row: unfollowed. -/
import Derived.Test.YtjefbjfifjjpmafGreatDoorRows
import Derived.JoinedCond
import Derived.KernelRfl
namespace Go.Proofs.YtjefbjfifjjpmafGreatDoor.driverNil
theorem fact_unfollowed : (Rows.driverNilUptoRow.unfollowed == Tryz.prog.unfollowed 3) = true := by kernel_rfl
end Go.Proofs.YtjefbjfifjjpmafGreatDoor.driverNil
