/- Typed readings: MergeUpTo. -/
import Derived.Test.YtfhojgammfkabaaS0
namespace Go.Proofs.Ytfhojgammfkabaa
open Go.Vw
-- 5 winnow/winnowlaw11.MergeUpTo
def S_winnowlaw11_MergeUpTo (from_1 : Sl) (which2 : Int) (n3 : Int) (K : Bool → World → Prop) (w : World) : Prop :=
  callK Try.prog 18 [.leaf (.sl from_1)] w (.one (.leaf (.sl))) fun a4 w_5 =>
  ifK ((a4.len : Int) == 0)
  (callK Try.prog 22 [] w_5 (.one (.leaf (.bool))) fun c6 w_7 =>
    K c6 w_7)
  ((a4.len : Int) ≠ 0 ∧
    joinK [.int .i64] (fun k8 =>
      ifK (decide (which2.tmod (a4.len : Int) < 0))
      (k8 (w64 ((which2.tmod (a4.len : Int)) + (a4.len : Int))) w_5)
      (k8 (which2.tmod (a4.len : Int)) w_5)) fun which9 w_10 =>
    callK Try.prog 20 [.leaf (.sl a4)] w_10 (.one (.leaf (.sl))) fun a11 w_12 =>
    callK Try.prog 19 [.leaf (.sl a11)] w_12 (.tup [.leaf (.sl), .leaf (.int .i64), .leaf (.bool)]) fun a13 n14 c15 w_16 =>
    joinK [.bool] (fun k17 =>
      ifK (decide (n3 < 0))
      (k17 true w_16)
      (ix a4 2 which9 fun b18 o19 =>
        ld w_16 .sl b18 o19 fun a20 =>
        k17 (decide ((a20.len : Int) < n3)) w_16)) fun t5221 w_22 =>
    joinK [.int .i64] (fun k23 =>
      ifK t5221
      (ix a4 2 which9 fun b24 o25 =>
        ld w_22 .sl b24 o25 fun a26 =>
        k23 (a26.len : Int) w_22)
      (k23 n3 w_22)) fun n27 w_28 =>
    al w_28 55 [.int .i64 0, .int .i64 0] fun b29 w_30 =>
    st w_30 b29 0 [.int .i64 0, .int .i64 (-1)] fun w_31 =>
    joinK [] (fun k32 =>
      ifK (decide (0 < n27))
      (ix a4 2 which9 fun b33 o34 =>
        ld w_31 .sl b33 o34 fun a35 =>
        ix a35 2 (w64 (n27 - 1)) fun b36 o37 =>
        ld w_31 (.int .i64) b36 o37 fun n38 =>
        ld w_31 (.int .i64) b36 (o37 + 1) fun n39 =>
        st w_31 b29 0 [.int .i64 n38, .int .i64 n39] fun w_40 =>
        k32 w_40)
      (k32 w_31)) fun w_41 =>
    joinK [.sl] (fun k42 =>
      loopL [.sl, .int .i64] (fun broken44 i45 w_46 again43 =>
        ifK (decide (i45 < (a4.len : Int)))
        (ix a4 2 i45 fun b47 o48 =>
          ld w_46 .sl b47 o48 fun a49 =>
          ld w_46 (.int .i64) b47 (o48 + 1) fun n50 =>
          al w_46 53 [.sl (⟨none, 0, 0⟩), .int .i64 0] fun b51 w_52 =>
          st w_52 b51 0 [.sl a49, .int .i64 n50] fun w_53 =>
          joinK [] (fun k54 =>
            ifK (i45 == which9)
            (ld w_53 .sl b51 0 fun a55 =>
              slx a55 2 none (some n27) none fun s56 =>
              st w_53 b51 0 [.sl s56, .int .i64 77] fun w_57 =>
              k54 w_57)
            (k54 w_53)) fun w_58 =>
          ld w_58 .sl b51 0 fun a59 =>
          ld w_58 (.int .i64) b51 1 fun n60 =>
          al w_58 53 [.sl a59, .int .i64 n60] fun b61 w_62 =>
          ap w_62 53 2 32 [.sl (⟨none, 0, 0⟩), .int .i64 0] broken44 (⟨some (b61, 0), 1, 1⟩) fun a63 w_64 =>
          again43 a63 (w64 (i45 + 1)) w_64)
        (k42 broken44 w_46)) [.sl (⟨none, 0, 0⟩), .int .i64 0] w_41) fun broken65 w_66 =>
    callK Try.prog 20 [.leaf (.sl broken65)] w_66 (.one (.leaf (.sl))) fun a67 w_68 =>
    callK Try.prog 19 [.leaf (.sl a67)] w_68 (.tup [.leaf (.sl), .leaf (.int .i64), .leaf (.bool)]) fun a69 n70 c71 w_72 =>
    joinK [.bool] (fun k73 =>
      ifK (!c15)
      (k73 true w_72)
      (ifK (!c71)
        (k73 true w_72)
        (k73 (n70 != 77) w_72))) fun t10974 w_75 =>
    ifK t10974
    (K false w_75)
    (ifK (n27 == 0)
      (joinK [.bool] (fun k76 =>
          ifK ((a69.len : Int) == 0)
          (callK Try.prog 22 [] w_75 (.one (.leaf (.bool))) fun c77 w_78 =>
            k76 c77 w_78)
          (k76 false w_75)) fun t679 w_80 =>
        K t679 w_80)
      (joinK [] (fun k81 =>
          loopL [.int .i64] (fun i83 w_84 again82 =>
            ifK (decide (i83 < (a69.len : Int)))
            (joinK [.bool] (fun k85 =>
                drawK w_84 fun D w_86 =>
                ifK (decide ((a13.len : Int) ≤ i83))
                (k85 true w_86)
                (ix a69 2 i83 fun b87 o88 =>
                  ldD D w_86 (.int .i64) b87 o88 fun n89 =>
                  ldD D w_86 (.int .i64) b87 (o88 + 1) fun n90 =>
                  ix a13 2 i83 fun b91 o92 =>
                  ldD D w_86 (.int .i64) b91 o92 fun n93 =>
                  ldD D w_86 (.int .i64) b91 (o92 + 1) fun n94 =>
                  opF Try.prog (vS (do eqGuard .neq 55 (.tmp 132) (.tmp 136) (.agg #[(LV.toV (.int .i64 n89)), (LV.toV (.int .i64 n90))]) (.agg #[(LV.toV (.int .i64 n93)), (LV.toV (.int .i64 n94))]); binOp .neq 55 (.agg #[(LV.toV (.int .i64 n89)), (LV.toV (.int .i64 n90))]) (.agg #[(LV.toV (.int .i64 n93)), (LV.toV (.int .i64 n94))]))) w_86 (.one (.leaf (.bool))) fun c96 w_95 =>
                  Mod D w_86 w_95 ∧
                  k85 c96 w_95)) fun t13897 w_98 =>
              ifK t13897
              (K false w_98)
              (again82 (w64 (i83 + 1)) w_98))
            (k81 w_84)) [.int .i64 0] w_75) fun w_99 =>
        joinK [.bool] (fun k100 =>
          drawK w_99 fun D w_101 =>
          ifK (decide (0 < (a69.len : Int)))
          (ix a69 2 (w64 ((a69.len : Int) - 1)) fun b102 o103 =>
            ldD D w_101 (.int .i64) b102 o103 fun n104 =>
            ldD D w_101 (.int .i64) b102 (o103 + 1) fun n105 =>
            ldD D w_101 (.int .i64) b29 0 fun n106 =>
            ldD D w_101 (.int .i64) b29 1 fun n107 =>
            opF Try.prog (vS (do eqGuard .eql 55 (.tmp 148) (.tmp 149) (.agg #[(LV.toV (.int .i64 n104)), (LV.toV (.int .i64 n105))]) (.agg #[(LV.toV (.int .i64 n106)), (LV.toV (.int .i64 n107))]); binOp .eql 55 (.agg #[(LV.toV (.int .i64 n104)), (LV.toV (.int .i64 n105))]) (.agg #[(LV.toV (.int .i64 n106)), (LV.toV (.int .i64 n107))]))) w_101 (.one (.leaf (.bool))) fun c109 w_108 =>
            Mod D w_101 w_108 ∧
            ifK c109
            (callK Try.prog 22 [] w_108 (.one (.leaf (.bool))) fun c110 w_111 =>
              Mod D w_101 w_111 ∧
              k100 c110 w_111)
            (k100 false w_108))
          (k100 false w_101)) fun t6112 w_113 =>
        K t6112 w_113)))

def N_winnowlaw11_MergeUpTo : Ann := (.mk none [] [] .done .nil (.mk none [] [] .done .nil (.mk none [] [] .done .nil (.mk none [] [] .done .nil (.mk none [] [] .done (.mk none [] [] .done .nil (.mk (some [.tmp 1 (.leaf (.int .i64))]) [] [0, 2] .done .nil .nil)) (.mk none [] [] .done .nil (.mk none [] [] .done (.mk none [] [] .done (.mk (some [.tmp 52 (.leaf (.bool))]) [] [0, 1, 2, 7, 9] .done .nil .nil) (.mk (some [.tmp 2 (.leaf (.int .i64))]) [] [0, 1, 7, 9] .done .nil .nil)) (.mk none [] [] .done .nil (.mk none [] [] .done (.mk none [] [] .done .nil (.mk (some []) [] [0, 1, 2, 7, 9, 10] .done .nil .nil)) (.mk none [] [] .done .nil (.mk none [] [] .done (.mk none [] [] .done .nil (.mk (some [.tmp 11 (.leaf (.sl))]) [] [2, 7, 9, 10] .done (.mk none [.tmp 11 (.leaf (.sl)), .tmp 12 (.leaf (.int .i64))] [0, 1, 2, 7, 9, 10] .done (.mk none [] [] .done .nil (.mk none [] [] .done (.mk none [] [] .done (.mk none [] [] .done .nil (.mk none [] [] .done (.mk none [] [] .done .nil (.mk (some []) [] [0, 1, 2, 7, 9, 10, 11, 12, 13] .done .nil .nil)) .nil)) .nil) .nil)) .nil) .nil)) (.mk none [] [] .done .nil (.mk none [] [] .done (.mk none [] [] .done (.mk (some [.tmp 109 (.leaf (.bool))]) [] [2, 7, 10, 14] .done .nil .nil) .nil) (.mk none [] [] .done (.mk none [] [] .done .nil (.mk none [] [] .done (.mk none [] [] .done (.mk (some [.tmp 6 (.leaf (.bool))]) [] [] .done .nil .nil) .nil) .nil)) (.mk none [] [] .done (.mk none [] [] .done .nil (.mk (some []) [] [10, 14] .done (.mk none [.tmp 17 (.leaf (.int .i64))] [7, 10, 14] .done (.mk none [] [] .done .nil (.mk none [] [] .done (.mk none [] [] .done (.mk none [] [] .done (.mk (some [.tmp 138 (.leaf (.bool))]) [] [7, 10, 14, 17] (.take 0 (.take 1 (.take 2 (.take 3 (.take 4 (.split 4 (.take 5 (.take 6 (.take 7 (.take 8 (.take 9 (.take 10 (.take 11 (.take 12 (.take 13 (.take 14 .done)))))))))) (.take 5 (.take 6 (.take 7 (.take 8 (.take 9 (.take 10 (.take 11 (.take 12 (.eff 13 (.take 14 .done)))))))))))))))) .nil .nil) .nil) .nil) .nil)) .nil) .nil)) (.mk none [] [] .done (.mk (some [.tmp 6 (.leaf (.bool))]) [] [] (.take 0 (.take 1 (.take 2 (.take 3 (.split 3 (.take 4 (.take 5 (.take 6 (.take 7 (.take 8 (.take 9 (.take 10 (.eff 11 (.take 12 (.take 13 (.split 13 (.eff 14 (.take 15 (.take 16 .done))) (.take 14 (.take 15 (.take 16 .done)))))))))))))) (.take 4 (.take 5 (.take 6 (.take 7 (.take 8 (.take 9 (.take 10 (.take 11 (.take 12 (.take 13 (.take 14 (.take 15 (.take 16 .done)))))))))))))))))) .nil .nil) .nil))))))))))))))))

theorem is_winnowlaw11_MergeUpTo (from_1 : Sl) (which2 : Int) (n3 : Int) (K : Bool → World → Prop) (w : World) : WF Try.prog CS Try.f5 N_winnowlaw11_MergeUpTo (.one (.leaf (.bool))) [.leaf (.sl from_1), .leaf (.int .i64 which2), .leaf (.int .i64 n3)] K w = S_winnowlaw11_MergeUpTo from_1 which2 n3 K w := by kernel_rfl
theorem go_winnowlaw11_MergeUpTo (from_1 : Sl) (which2 : Int) (n3 : Int) (K : Bool → World → Prop) (w : World) (h : S_winnowlaw11_MergeUpTo from_1 which2 n3 K w) : callK Try.prog 5 [.leaf (.sl from_1), .leaf (.int .i64 which2), .leaf (.int .i64 n3)] w (.one (.leaf (.bool))) K := by
  refine WF_sound (n := N_winnowlaw11_MergeUpTo) CS_ok mixed Try.func5 ?_
  rw [is_winnowlaw11_MergeUpTo]
  exact h


end Go.Proofs.Ytfhojgammfkabaa
