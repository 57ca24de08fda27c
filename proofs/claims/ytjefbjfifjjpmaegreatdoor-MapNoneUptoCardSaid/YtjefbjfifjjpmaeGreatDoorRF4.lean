/- One closed fact of the row: named. -/
import Derived.Test.YtjefbjfifjjpmaeGreatDoorRows
import Derived.JoinedCond
import Derived.KernelRfl
namespace Go.Proofs.YtjefbjfifjjpmaeGreatDoor.mapNone
theorem fact_named : (Rows.mapNoneUptoRow.named == Tryz.prog.varsNamed 3) = true := by kernel_rfl
end Go.Proofs.YtjefbjfifjjpmaeGreatDoor.mapNone
