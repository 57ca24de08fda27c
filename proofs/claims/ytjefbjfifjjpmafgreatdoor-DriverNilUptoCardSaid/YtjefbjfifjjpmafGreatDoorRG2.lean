/- One closed fact of the card: the program's own looks. -/
import Derived.Test.YtjefbjfifjjpmafGreatDoorRows
import Derived.SevenTiedAt
import Derived.KernelRfl
namespace Go.Proofs.YtjefbjfifjjpmafGreatDoor.driverNil
theorem fact_looks : true = Tryz.pinned.checked.prog.looks [] := by kernel_rfl
end Go.Proofs.YtjefbjfifjjpmafGreatDoor.driverNil
