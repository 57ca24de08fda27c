/- Opening: a slice among the arguments, of which nothing is read; texts. (names no type of a program) -/
import Derived.Test.YtkofkhjcfjoceaaGreatLR
import Derived.ChangeMaps5
namespace Go.Proofs.YtkofkhjcfjoceaaGreat
open Go.ChangeShapes Go.WideShapes Go.ChangeAt Go.RowKit Go.Vw
theorem str_toV(s:ByteArray):Value.string s=(LV.str s.data.toList).toV:=by
 cases s;simp [LV.toV]
end Go.Proofs.YtkofkhjcfjoceaaGreat
