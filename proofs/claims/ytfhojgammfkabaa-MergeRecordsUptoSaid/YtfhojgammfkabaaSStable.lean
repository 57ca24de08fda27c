/- The typed reading of MergeStable. -/
import Derived.Test.YtfhojgammfkabaaS0
namespace Go.Proofs.Ytfhojgammfkabaa
open Go.Vw
-- 4 winnow/winnowlaw11.MergeStable
def S_winnowlaw11_MergeStable (from_1 : Sl) (K : Bool → World → Prop) (w : World) : Prop :=
  callK Try.prog 18 [.leaf (.sl from_1)] w (.one (.leaf (.sl))) fun a2 w_3 =>
  callK Try.prog 20 [.leaf (.sl a2)] w_3 (.one (.leaf (.sl))) fun a4 w_5 =>
  callK Try.prog 19 [.leaf (.sl a4)] w_5 (.tup [.leaf (.sl), .leaf (.int .i64), .leaf (.bool)]) fun a6 n7 c8 w_9 =>
  joinK [.bool] (fun k10 =>
    ifK c8
    (ifK (n7 == 0)
      (callK Try.prog 21 [.leaf (.sl a6), .leaf (.sl a2)] w_9 (.one (.leaf (.bool))) fun c11 w_12 =>
        ifK c11
        (callK Try.prog 22 [] w_12 (.one (.leaf (.bool))) fun c13 w_14 =>
          k10 c13 w_14)
        (k10 false w_12))
      (k10 false w_9))
    (k10 false w_9)) fun t215 w_16 =>
  K t215 w_16

def N_winnowlaw11_MergeStable : Ann := (.mk none [] [] .done .nil (.mk none [] [] .done .nil (.mk none [] [] .done .nil (.mk none [] [] .done (.mk (some [.tmp 2 (.leaf (.bool))]) [] [] .done .nil .nil) .nil))))

theorem is_winnowlaw11_MergeStable (from_1 : Sl) (K : Bool → World → Prop) (w : World) : WF Try.prog CS Try.f4 N_winnowlaw11_MergeStable (.one (.leaf (.bool))) [.leaf (.sl from_1)] K w = S_winnowlaw11_MergeStable from_1 K w := by kernel_rfl
theorem go_winnowlaw11_MergeStable (from_1 : Sl) (K : Bool → World → Prop) (w : World) (h : S_winnowlaw11_MergeStable from_1 K w) : callK Try.prog 4 [.leaf (.sl from_1)] w (.one (.leaf (.bool))) K := by
  refine WF_sound (n := N_winnowlaw11_MergeStable) CS_ok mixed Try.func4 ?_
  rw [is_winnowlaw11_MergeStable]
  exact h


end Go.Proofs.Ytfhojgammfkabaa
