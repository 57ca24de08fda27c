/- One closed fact of the row: inPlace. -/
import Derived.Test.YtjefbjfifjjpmaeGreatDoorRows
import Derived.JoinedCond
import Derived.KernelRfl
namespace Go.Proofs.YtjefbjfifjjpmaeGreatDoor.mapNone
theorem fact_inPlace : (Rows.mapNoneUptoRow.inPlace == Tryz.prog.inPlace 3) = true := by kernel_rfl
end Go.Proofs.YtjefbjfifjjpmaeGreatDoor.mapNone
