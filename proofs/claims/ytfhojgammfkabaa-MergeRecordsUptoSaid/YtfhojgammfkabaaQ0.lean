/- Things are compared as wholes; the look at what is stable. -/
import Derived.Test.YtfhojgammfkabaaP0
import Derived.Laws.StructEq
namespace Go.Proofs.Ytfhojgammfkabaa
open Go.Vw

theorem run_eq_thing (w : World) (a b c d : Int) : (Op.equalIn 10000 55 (.agg #[.int .i64 a, .int .i64 b]) (.agg #[.int .i64 c, .int .i64 d])).run Try.prog w = .ok (a == c && b == d) w := by
  have hf : Try.prog.fieldsOf 55 = #[{ name := "Key", type := 3, offset := 0, embedded := false, tag := "", pkgPath := "", byteOffset := 0 }, { name := "Name", type := 3, offset := 1, embedded := false, tag := "", pkgPath := "", byteOffset := 8 }] := by
    simp [Program.fieldsOf, Try.underlying55]
  rw [run_equalIn_struct w 9999 55 _ _ (by rw [hf]; exact Try.underlying55) Try.stoodInHeld55, hf]
  have h3 : Try.prog.underlying 3 = some (.int .i64) := Try.underlying3
  simp [Op.eqFields, part, run_equalIn_int _ _ _ _ _ _ _ h3, Result.andThen]
  by_cases h1 : a = c <;> by_cases h2 : b = d <;> simp [h1, h2]
theorem eq_thing {w : World} {a b c d : Int} {o1 o2 : Operand} {K : Bool → World → Prop} (hK : K (a == c && b == d) w) :
    opF Try.prog (vS (do eqGuard .eql 55 o1 o2 (.agg #[(LV.toV (.int .i64 a)), (LV.toV (.int .i64 b))]) (.agg #[(LV.toV (.int .i64 c)), (LV.toV (.int .i64 d))]); binOp .eql 55 (.agg #[(LV.toV (.int .i64 a)), (LV.toV (.int .i64 b))]) (.agg #[(LV.toV (.int .i64 c)), (LV.toV (.int .i64 d))]))) w (.one (.leaf .bool)) K := by
  refine ⟨[.bool (a == c && b == d)], w, ?_, hK⟩
  simp only [vS, Sem.run_bind, run_eqGuard_agg w .eql 55 o1 o2 _ _ Try.eqGuardType55, Result.andThen, run_eql_struct, LV.toV, run_eq_thing]
  rfl
theorem neq_thing {w : World} {a b c d : Int} {o1 o2 : Operand} {K : Bool → World → Prop} (hK : K (!(a == c && b == d)) w) :
    opF Try.prog (vS (do eqGuard .neq 55 o1 o2 (.agg #[(LV.toV (.int .i64 a)), (LV.toV (.int .i64 b))]) (.agg #[(LV.toV (.int .i64 c)), (LV.toV (.int .i64 d))]); binOp .neq 55 (.agg #[(LV.toV (.int .i64 a)), (LV.toV (.int .i64 b))]) (.agg #[(LV.toV (.int .i64 c)), (LV.toV (.int .i64 d))]))) w (.one (.leaf .bool)) K := by
  refine ⟨[.bool (!(a == c && b == d))], w, ?_, hK⟩
  simp only [vS, Sem.run_bind, run_eqGuard_agg w .neq 55 o1 o2 _ _ Try.eqGuardType55, Result.andThen, run_neq_struct, LV.toV, run_eq_thing]
  rfl
end Go.Proofs.Ytfhojgammfkabaa
