/- One closed fact of the row: recurses. -/
import Derived.Test.YtjefbjfifjjpmaeGreatDoorRows
import Derived.JoinedCond
import Derived.KernelRfl
namespace Go.Proofs.YtjefbjfifjjpmaeGreatDoor.mapNone
theorem fact_recurses : (Rows.mapNoneUptoRow.recurses == Tryz.prog.recurses 3) = true := by kernel_rfl
end Go.Proofs.YtjefbjfifjjpmaeGreatDoor.mapNone
