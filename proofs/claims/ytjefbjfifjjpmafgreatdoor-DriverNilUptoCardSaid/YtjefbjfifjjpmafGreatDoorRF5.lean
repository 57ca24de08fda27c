/- The row's closed facts. -/
import Derived.Test.YtjefbjfifjjpmafGreatDoorRows
import Derived.JoinedCond
import Derived.KernelRfl
import Derived.Test.YtjefbjfifjjpmafGreatDoorRF1
import Derived.Test.YtjefbjfifjjpmafGreatDoorRF2
import Derived.Test.YtjefbjfifjjpmafGreatDoorRF3
import Derived.Test.YtjefbjfifjjpmafGreatDoorRF4
namespace Go.Proofs.YtjefbjfifjjpmafGreatDoor.driverNil
theorem andT {a b : Bool} (h : a = true) (k : b = true) : (a && b) = true := by rw [h, k]; rfl
set_option maxRecDepth 100000 in
theorem closed : joinedFacts Tryz.prog 3 Tryz.f3 (Rows.OpenSpec.upto Rows.driverNilSpec).bare Rows.driverNilUptoRow = true := by
  unfold joinedFacts
  exact (andT (andT (andT (andT (andT (andT (andT (andT (andT (andT (andT (andT (andT (andT (andT (andT (andT (andT (andT (andT (andT (andT (andT (andT (andT (andT (andT (andT (andT (andT (andT (by kernel_rfl) (by kernel_rfl)) (by kernel_rfl)) (by kernel_rfl)) (by kernel_rfl)) (by kernel_rfl)) (by kernel_rfl)) (by kernel_rfl)) (by kernel_rfl)) fact_inPlace) fact_unfollowed) fact_recurses) fact_named) (by kernel_rfl)) (by kernel_rfl)) (by kernel_rfl)) (by kernel_rfl)) (by kernel_rfl)) (by kernel_rfl)) (by kernel_rfl)) (by kernel_rfl)) (by kernel_rfl)) (by kernel_rfl)) (by kernel_rfl)) (by kernel_rfl)) (by kernel_rfl)) (by kernel_rfl)) (by kernel_rfl)) (by kernel_rfl)) (by kernel_rfl)) (by kernel_rfl)) (by kernel_rfl))
end Go.Proofs.YtjefbjfifjjpmafGreatDoor.driverNil
