/- One closed fact of the card: no call goes by what the row leaves open. -/
import Derived.Test.YtjefbjfifjjpmafGreatDoorRows
import Derived.SevenTiedAt
import Derived.KernelRfl
namespace Go.Proofs.YtjefbjfifjjpmafGreatDoor.driverNil
theorem fact_goes : false = Rows.driverNilUptoRow.goesBy Tryz.pinned.checked.prog := by kernel_rfl
end Go.Proofs.YtjefbjfifjjpmafGreatDoor.driverNil
