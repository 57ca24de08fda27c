/- The functions that are called, by number (chain's splits). -/
import Derived.Test.YtjldecomhpngmaaDoorWB
import Derived.Test.YtjldecomhpngmaaDoorProg
import Derived.KernelRfl
namespace Go.Proofs.YtjldecomhpngmaaDoor
open Go.Vw
def CS : List Nat := [3, 4, 5, 6, 7, 8, 9, 10, 11, 12, 13, 14, 15, 16, 17, 18, 19, 20, 21, 22, 24, 27, 28, 29, 30, 31, 32, 33, 34, 35, 36, 37]
theorem CS_all : CS.all (callable Tryd.prog) = true := by kernel_rfl
theorem CS_ok (f : Nat) (h : CS.contains f = true) : callable Tryd.prog f = true := List.all_eq_true.1 CS_all f (by simpa using h)
theorem mixed : Tryd.prog.follows .mixedOrders = true := by kernel_rfl
end Go.Proofs.YtjldecomhpngmaaDoor
