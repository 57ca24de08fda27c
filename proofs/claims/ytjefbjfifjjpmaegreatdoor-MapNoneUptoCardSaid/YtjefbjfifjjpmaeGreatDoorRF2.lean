/- One closed fact of the row: unfollowed. -/
import Derived.Test.YtjefbjfifjjpmaeGreatDoorRows
import Derived.JoinedCond
import Derived.KernelRfl
namespace Go.Proofs.YtjefbjfifjjpmaeGreatDoor.mapNone
theorem fact_unfollowed : (Rows.mapNoneUptoRow.unfollowed == Tryz.prog.unfollowed 3) = true := by kernel_rfl
end Go.Proofs.YtjefbjfifjjpmaeGreatDoor.mapNone
