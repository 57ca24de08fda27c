/- The functions that are called, by number (store's laws). -/
import Derived.Test.YtjldecomhpngmaaWB
import Derived.Test.YtjldecomhpngmaaProg
import Derived.KernelRfl
namespace Go.Proofs.Ytjldecomhpngmaa
open Go.Vw
def CS : List Nat := [3, 4, 5, 6, 7, 8, 9, 10, 11, 12, 13, 14, 15, 16, 17, 18, 19, 20, 21, 22, 23, 24, 25, 26, 27, 28, 29, 30, 31, 32, 33, 34, 35, 36, 37, 38, 39, 40, 41, 42, 43, 44, 45, 46, 47, 48, 49, 50, 51, 52, 53, 54, 55, 56, 57, 58, 59, 60, 61, 62, 63, 72, 73, 74, 75, 76, 77, 78, 79, 80, 81, 83, 84, 92, 93, 94, 95, 96, 97]
theorem CS_all : CS.all (callable Try.prog) = true := by kernel_rfl
theorem CS_ok (f : Nat) (h : CS.contains f = true) : callable Try.prog f = true := List.all_eq_true.1 CS_all f (by simpa using h)
theorem mixed : Try.prog.follows .mixedOrders = true := by kernel_rfl
end Go.Proofs.Ytjldecomhpngmaa
