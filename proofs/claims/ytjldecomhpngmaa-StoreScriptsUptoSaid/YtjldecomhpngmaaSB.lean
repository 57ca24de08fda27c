/- Readings: the laws that ask no reference. -/
import Derived.Test.YtjldecomhpngmaaS0
namespace Go.Proofs.Ytjldecomhpngmaa
open Go.Vw
-- 3 winnow/winnowlaw5.StoreReads
def S_winnowlaw5_StoreReads (data1 : Sl) (looks2 : Sl) (K : Bool → World → Prop) (w : World) : Prop :=
  callK Try.prog 9 [.leaf (.sl data1)] w (.one (.leaf (.sl))) fun a3 w_4 =>
  callK Try.prog 10 [] w_4 (.one (.leaf (.ptr))) fun p5 w_6 =>
  joinK [.bool] (fun k7 =>
    ifK p5.isNone
    (k7 true w_6)
    (callK Try.prog 11 [.leaf (.ptr p5), .leaf (.str [97])] w_6 (.one (.leaf (.int .i64))) fun n8 w_9 =>
      ifK (n8 != 0)
      (k7 true w_9)
      (callK Try.prog 12 [.leaf (.ptr p5), .leaf (.str [97]), .leaf (.sl a3)] w_9 (.one (.leaf (.int .i64))) fun n10 w_11 =>
        ifK (n10 != 0)
        (k7 true w_11)
        (callK Try.prog 13 [.leaf (.ptr p5), .leaf (.str [97])] w_11 (.one (.leaf (.int .i64))) fun n12 w_13 =>
          k7 (n12 != 0) w_13)))) fun t3314 w_15 =>
  ifK t3314
  (K false w_15)
  (al w_15 31 [.int .i64 0, .int .i64 0, .int .i64 0] fun b16 w_17 =>
    joinK [] (fun k18 =>
      loopL [.int .i64] (fun i20 w_21 again19 =>
        ifK (decide (i20 < (looks2.len : Int)))
        (ix looks2 2 i20 fun b22 o23 =>
          ld w_21 (.int .i64) b22 o23 fun n24 =>
          ld w_21 (.int .i64) b22 (o23 + 1) fun n25 =>
          al w_21 33 [.int .i64 0, .int .i64 0] fun b26 w_27 =>
          st w_27 b26 0 [.int .i64 n24, .int .i64 n25] fun w_28 =>
          ld w_28 (.int .i64) b26 0 fun n29 =>
          ld w_28 (.int .i64) b26 1 fun n30 =>
          callK Try.prog 14 [.leaf (.ptr p5), .leaf (.str [97]), .leaf (.int .i64 n29), .leaf (.int .i64 n30)] w_28 (.tup [.leaf (.sl), .leaf (.int .i64)]) fun a31 n32 w_33 =>
          ld w_33 (.int .i64) b26 1 fun n34 =>
          joinK [] (fun k35 =>
            ifK (decide (n34 < 0))
            (ifK (n32 != 3)
              (K false w_33)
              (k35 w_33))
            (joinK [.bool] (fun k36 =>
                ld w_33 (.int .i64) b26 0 fun n37 =>
                ifK (decide (n37 < 0))
                (k36 true w_33)
                (ld w_33 (.int .i64) b26 0 fun n38 =>
                  k36 (decide ((a3.len : Int) < n38)) w_33)) fun t10339 w_40 =>
              joinK [] (fun k41 =>
                ifK t10339
                (ifK (n32 != 56)
                  (K false w_40)
                  (k41 w_40))
                (ld w_40 (.int .i64) b26 1 fun n42 =>
                  ld w_40 (.int .i64) b26 0 fun n43 =>
                  joinK [.int .i64] (fun k44 =>
                    ifK (decide (w64 ((a3.len : Int) - n43) < n42))
                    (ld w_40 (.int .i64) b26 0 fun n45 =>
                      k44 (w64 ((a3.len : Int) - n45)) w_40)
                    (k44 n42 w_40)) fun n46 w_47 =>
                  joinK [.bool] (fun k48 =>
                    ifK (n32 != 0)
                    (k48 true w_47)
                    (ld w_47 (.int .i64) b26 0 fun n49 =>
                      ld w_47 (.int .i64) b26 0 fun n50 =>
                      slx a3 1 (some n49) (some (w64 (n50 + n46))) none fun s51 =>
                      callK Try.prog 15 [.leaf (.sl a31), .leaf (.sl s51)] w_47 (.one (.leaf (.bool))) fun c52 w_53 =>
                      k48 (!c52) w_53)) fun t8154 w_55 =>
                  ifK t8154
                  (K false w_55)
                  (ld w_55 (.int .i64) b16 0 fun n56 =>
                    st w_55 b16 0 [.int .i64 (w64 (n56 + 1))] fun w_57 =>
                    ld w_57 (.int .i64) b16 1 fun n58 =>
                    st w_57 b16 1 [.int .i64 (w64 (n58 + n46))] fun w_59 =>
                    ld w_59 (.int .i64) b16 2 fun n60 =>
                    joinK [] (fun k61 =>
                      ifK (decide (n60 < n46))
                      (st w_59 b16 2 [.int .i64 n46] fun w_62 =>
                        k61 w_62)
                      (k61 w_59)) fun w_63 =>
                    k41 w_63))) fun w_64 =>
              k35 w_64)) fun w_65 =>
          joinK [.bool] (fun k66 =>
            drawK w_65 fun D w_67 =>
            ifK (n32 != 0)
            (ifK ((a31.len : Int) != 0)
              (k66 true w_67)
              (ldD D w_67 (.int .i64) b16 0 fun n68 =>
                ldD D w_67 (.int .i64) b16 1 fun n69 =>
                ldD D w_67 (.int .i64) b16 2 fun n70 =>
                callK Try.prog 16 [.leaf (.ptr p5)] w_67 (.one (.agg [.int .i64, .int .i64, .int .i64])) fun n71 n72 n73 w_74 =>
                Mod D w_67 w_74 ∧
                opF Try.prog (vS (do eqGuard .neq 31 (.tmp 124) (.tmp 125) (.agg #[(LV.toV (.int .i64 n71)), (LV.toV (.int .i64 n72)), (LV.toV (.int .i64 n73))]) (.agg #[(LV.toV (.int .i64 n68)), (LV.toV (.int .i64 n69)), (LV.toV (.int .i64 n70))]); binOp .neq 31 (.agg #[(LV.toV (.int .i64 n71)), (LV.toV (.int .i64 n72)), (LV.toV (.int .i64 n73))]) (.agg #[(LV.toV (.int .i64 n68)), (LV.toV (.int .i64 n69)), (LV.toV (.int .i64 n70))]))) w_74 (.one (.leaf (.bool))) fun c76 w_75 =>
                Mod D w_67 w_75 ∧
                k66 c76 w_75))
            (ldD D w_67 (.int .i64) b16 0 fun n77 =>
              ldD D w_67 (.int .i64) b16 1 fun n78 =>
              ldD D w_67 (.int .i64) b16 2 fun n79 =>
              callK Try.prog 16 [.leaf (.ptr p5)] w_67 (.one (.agg [.int .i64, .int .i64, .int .i64])) fun n80 n81 n82 w_83 =>
              Mod D w_67 w_83 ∧
              opF Try.prog (vS (do eqGuard .neq 31 (.tmp 124) (.tmp 125) (.agg #[(LV.toV (.int .i64 n80)), (LV.toV (.int .i64 n81)), (LV.toV (.int .i64 n82))]) (.agg #[(LV.toV (.int .i64 n77)), (LV.toV (.int .i64 n78)), (LV.toV (.int .i64 n79))]); binOp .neq 31 (.agg #[(LV.toV (.int .i64 n80)), (LV.toV (.int .i64 n81)), (LV.toV (.int .i64 n82))]) (.agg #[(LV.toV (.int .i64 n77)), (LV.toV (.int .i64 n78)), (LV.toV (.int .i64 n79))]))) w_83 (.one (.leaf (.bool))) fun c85 w_84 =>
              Mod D w_67 w_84 ∧
              k66 c85 w_84)) fun t12786 w_87 =>
          ifK t12786
          (K false w_87)
          (again19 (w64 (i20 + 1)) w_87))
        (k18 w_21)) [.int .i64 0] w_17) fun w_88 =>
    callK Try.prog 17 [] w_88 (.one (.leaf (.bool))) fun c89 w_90 =>
    K c89 w_90)

def N_winnowlaw5_StoreReads : Ann := (.mk none [] [] .done .nil (.mk none [] [] .done .nil (.mk none [] [] .done .nil (.mk none [] [] .done (.mk none [] [] .done (.mk (some [.tmp 33 (.leaf (.bool))]) [] [0, 1, 5] .done .nil .nil) .nil) (.mk none [] [] .done .nil (.mk none [] [] .done .nil (.mk none [] [] .done (.mk none [] [] .done .nil (.mk (some []) [] [] .done (.mk none [.tmp 8 (.leaf (.int .i64))] [0, 1, 5, 6, 7] .done (.mk none [] [] .done .nil (.mk none [] [] .done (.mk none [] [] .done (.mk none [] [] .done .nil (.mk none [] [] .done .nil (.mk none [] [] .done (.mk none [] [] .done (.mk none [] [] .done .nil (.mk (some []) [] [0, 1, 5, 6, 7, 8, 10, 11] .done .nil (.mk none [] [] .done (.mk (some [.tmp 103 (.leaf (.bool))]) [] [0, 1, 5, 6, 7, 8, 9, 10, 11] .done .nil .nil) (.mk (some []) [] [0, 1, 5, 6, 7, 8, 10, 11] .done .nil (.mk none [] [] .done .nil (.mk none [] [] .done (.mk none [] [] .done .nil (.mk (some [.tmp 12 (.leaf (.int .i64))]) [] [0, 1, 5, 6, 7, 8, 9, 10, 11] .done .nil .nil)) (.mk none [] [] .done (.mk none [] [] .done (.mk (some [.tmp 81 (.leaf (.bool))]) [] [0, 1, 5, 6, 7, 8, 10, 11, 12] .done .nil .nil) .nil) (.mk none [] [] .done .nil (.mk none [] [] .done .nil (.mk none [] [] .done .nil (.mk (some []) [] [0, 1, 5, 6, 7, 8, 10, 11] .done .nil .nil))))))))))) .nil) (.mk none [] [] .done (.mk (some [.tmp 127 (.leaf (.bool))]) [] [0, 1, 5, 6, 7, 8] (.take 0 (.take 1 (.take 2 (.split 2 (.take 3 (.take 4 (.take 5 (.take 6 (.take 7 (.split 7 (.take 8 (.take 9 (.take 10 (.take 11 (.take 12 .done))))) (.take 8 (.take 10 (.eff 9 (.eff 11 (.take 12 .done))))))))))) (.take 3 (.take 4 (.take 5 (.take 6 (.take 7 (.take 8 (.take 10 (.eff 9 (.eff 11 (.take 12 .done)))))))))))))) .nil .nil) .nil)))) .nil) .nil)) .nil) .nil)) .nil)))))))

theorem is_winnowlaw5_StoreReads (data1 : Sl) (looks2 : Sl) (K : Bool → World → Prop) (w : World) : WF Try.prog CS Try.f3 N_winnowlaw5_StoreReads (.one (.leaf (.bool))) [.leaf (.sl data1), .leaf (.sl looks2)] K w = S_winnowlaw5_StoreReads data1 looks2 K w := by kernel_rfl
theorem go_winnowlaw5_StoreReads (data1 : Sl) (looks2 : Sl) (K : Bool → World → Prop) (w : World) (h : S_winnowlaw5_StoreReads data1 looks2 K w) : callK Try.prog 3 [.leaf (.sl data1), .leaf (.sl looks2)] w (.one (.leaf (.bool))) K := by
  refine WF_sound (n := N_winnowlaw5_StoreReads) CS_ok mixed Try.func3 ?_
  rw [is_winnowlaw5_StoreReads]
  exact h

-- 4 winnow/winnowlaw5.StoreFlips
def S_winnowlaw5_StoreFlips (data1 : Sl) (bit2 : Int) (mask3 : Int) (K : Bool → World → Prop) (w : World) : Prop :=
  callK Try.prog 9 [.leaf (.sl data1)] w (.one (.leaf (.sl))) fun a4 w_5 =>
  callK Try.prog 10 [] w_5 (.one (.leaf (.ptr))) fun p6 w_7 =>
  joinK [.bool] (fun k8 =>
    ifK p6.isNone
    (k8 true w_7)
    (callK Try.prog 11 [.leaf (.ptr p6), .leaf (.str [97])] w_7 (.one (.leaf (.int .i64))) fun n9 w_10 =>
      ifK (n9 != 0)
      (k8 true w_10)
      (callK Try.prog 11 [.leaf (.ptr p6), .leaf (.str [98])] w_10 (.one (.leaf (.int .i64))) fun n11 w_12 =>
        ifK (n11 != 0)
        (k8 true w_12)
        (callK Try.prog 12 [.leaf (.ptr p6), .leaf (.str [97]), .leaf (.sl a4)] w_12 (.one (.leaf (.int .i64))) fun n13 w_14 =>
          ifK (n13 != 0)
          (k8 true w_14)
          (callK Try.prog 12 [.leaf (.ptr p6), .leaf (.str [98]), .leaf (.sl a4)] w_14 (.one (.leaf (.int .i64))) fun n15 w_16 =>
            ifK (n15 != 0)
            (k8 true w_16)
            (callK Try.prog 13 [.leaf (.ptr p6), .leaf (.str [97])] w_16 (.one (.leaf (.int .i64))) fun n17 w_18 =>
              ifK (n17 != 0)
              (k8 true w_18)
              (callK Try.prog 13 [.leaf (.ptr p6), .leaf (.str [98])] w_18 (.one (.leaf (.int .i64))) fun n19 w_20 =>
                k8 (n19 != 0) w_20))))))) fun t5721 w_22 =>
  ifK t5721
  (K false w_22)
  (callK Try.prog 18 [.leaf (.ptr p6), .leaf (.str [97]), .leaf (.int .i64 bit2), .leaf (.int .u32 mask3)] w_22 (.one (.leaf (.int .i64))) fun n23 w_24 =>
    joinK [.bool] (fun k25 =>
      ifK (decide (bit2 < 0))
      (k25 true w_24)
      (k25 (decide (w64 (8 * (a4.len : Int)) ≤ bit2)) w_24)) fun t7126 w_27 =>
    ifK t7126
    (joinK [.bool] (fun k28 =>
        ifK (n23 == 56)
        (callK Try.prog 17 [] w_27 (.one (.leaf (.bool))) fun c29 w_30 =>
          k28 c29 w_30)
        (k28 false w_27)) fun t631 w_32 =>
      K t631 w_32)
    (callK Try.prog 14 [.leaf (.ptr p6), .leaf (.str [97]), .leaf (.int .i64 0), .leaf (.int .i64 (a4.len : Int))] w_27 (.tup [.leaf (.sl), .leaf (.int .i64)]) fun a33 n34 w_35 =>
      callK Try.prog 14 [.leaf (.ptr p6), .leaf (.str [98]), .leaf (.int .i64 0), .leaf (.int .i64 (a4.len : Int))] w_35 (.tup [.leaf (.sl), .leaf (.int .i64)]) fun a36 n37 w_38 =>
      joinK [.bool] (fun k39 =>
        ifK (n23 != 0)
        (k39 true w_38)
        (ifK (n34 != 0)
          (k39 true w_38)
          (ifK (n37 != 0)
            (k39 true w_38)
            (callK Try.prog 15 [.leaf (.sl a36), .leaf (.sl a4)] w_38 (.one (.leaf (.bool))) fun c40 w_41 =>
              ifK (!c40)
              (k39 true w_41)
              (k39 ((a33.len : Int) != (a4.len : Int)) w_41))))) fun t11342 w_43 =>
      ifK t11342
      (K false w_43)
      (joinK [] (fun k44 =>
          loopL [.int .i64] (fun i46 w_47 again45 =>
            ifK (decide (i46 < w64 (8 * (a4.len : Int))))
            (ix a4 1 (w64 (i46.tdiv 8)) fun b48 o49 =>
              ld w_47 (.int .u8) b48 o49 fun n50 =>
              0 ≤ (IntKind.wrap .u64 (i46.tmod 8)) ∧
              ix a33 1 (w64 (i46.tdiv 8)) fun b51 o52 =>
              ld w_47 (.int .u8) b51 o52 fun n53 =>
              0 ≤ (IntKind.wrap .u64 (i46.tmod 8)) ∧
              joinK [.bool] (fun k54 =>
                ifK (decide (bit2 ≤ i46))
                (ifK (decide (i46 < w64 (bit2 + 32)))
                  (0 ≤ (IntKind.wrap .u64 (w64 (i46 - bit2))) ∧
                    k54 ((bitI .and .u32 (shrI .u32 mask3 (IntKind.wrap .u64 (w64 (i46 - bit2)))) 1) == 1) w_47)
                  (k54 false w_47))
                (k54 false w_47)) fun named55 w_56 =>
              opF Try.prog (vS (do eqGuard .neq 4 (.tmp 160) (.tmp 161) (LV.toV (.bool ((bitI .and .u8 (shrI .u8 n50 (IntKind.wrap .u64 (i46.tmod 8))) 1) != (bitI .and .u8 (shrI .u8 n53 (IntKind.wrap .u64 (i46.tmod 8))) 1)))) (LV.toV (.bool named55)); binOp .neq 4 (LV.toV (.bool ((bitI .and .u8 (shrI .u8 n50 (IntKind.wrap .u64 (i46.tmod 8))) 1) != (bitI .and .u8 (shrI .u8 n53 (IntKind.wrap .u64 (i46.tmod 8))) 1)))) (LV.toV (.bool named55)))) w_56 (.one (.leaf (.bool))) fun c58 w_57 =>
              ifK c58
              (K false w_57)
              (again45 (w64 (i46 + 1)) w_57))
            (k44 w_47)) [.int .i64 0] w_43) fun w_59 =>
        callK Try.prog 18 [.leaf (.ptr p6), .leaf (.str [97]), .leaf (.int .i64 bit2), .leaf (.int .u32 mask3)] w_59 (.one (.leaf (.int .i64))) fun n60 w_61 =>
        callK Try.prog 14 [.leaf (.ptr p6), .leaf (.str [97]), .leaf (.int .i64 0), .leaf (.int .i64 (a4.len : Int))] w_61 (.tup [.leaf (.sl), .leaf (.int .i64)]) fun a62 n63 w_64 =>
        joinK [.bool] (fun k65 =>
          ifK (n60 == 0)
          (ifK (n63 == 0)
            (callK Try.prog 15 [.leaf (.sl a62), .leaf (.sl a4)] w_64 (.one (.leaf (.bool))) fun c66 w_67 =>
              ifK c66
              (callK Try.prog 17 [] w_67 (.one (.leaf (.bool))) fun c68 w_69 =>
                k65 c68 w_69)
              (k65 false w_67))
            (k65 false w_64))
          (k65 false w_64)) fun t670 w_71 =>
        K t670 w_71)))

def N_winnowlaw5_StoreFlips : Ann := (.mk none [] [] .done .nil (.mk none [] [] .done .nil (.mk none [] [] .done .nil (.mk none [] [] .done (.mk none [] [] .done (.mk (some [.tmp 57 (.leaf (.bool))]) [] [0, 1, 2, 7] .done .nil .nil) .nil) (.mk none [] [] .done .nil (.mk none [] [] .done .nil (.mk none [] [] .done (.mk none [] [] .done (.mk (some [.tmp 71 (.leaf (.bool))]) [] [0, 1, 2, 7, 8, 9] .done .nil .nil) (.mk none [] [] .done (.mk none [] [] .done (.mk (some [.tmp 6 (.leaf (.bool))]) [] [] .done .nil .nil) .nil) .nil)) (.mk none [] [] .done .nil (.mk none [] [] .done .nil (.mk none [] [] .done (.mk none [] [] .done (.mk (some [.tmp 113 (.leaf (.bool))]) [] [0, 1, 2, 7, 8, 10] .done .nil .nil) .nil) (.mk none [] [] .done (.mk none [] [] .done .nil (.mk (some []) [] [0, 1, 2, 7] .done (.mk none [.tmp 14 (.leaf (.int .i64))] [0, 1, 2, 7, 8, 10] .done (.mk none [] [] .done .nil (.mk none [] [] .done (.mk none [] [] .done (.mk none [] [] .done .nil (.mk none [] [] .done .nil (.mk none [] [] .done (.mk (some [.tmp 17 (.leaf (.bool))]) [] [0, 1, 2, 7, 8, 10, 14, 15, 16] .done .nil .nil) .nil))) .nil) .nil)) .nil) .nil)) (.mk none [] [] .done .nil (.mk none [] [] .done .nil (.mk none [] [] .done (.mk (some [.tmp 6 (.leaf (.bool))]) [] [] .done .nil .nil) .nil))))))))))))))

theorem is_winnowlaw5_StoreFlips (data1 : Sl) (bit2 : Int) (mask3 : Int) (K : Bool → World → Prop) (w : World) : WF Try.prog CS Try.f4 N_winnowlaw5_StoreFlips (.one (.leaf (.bool))) [.leaf (.sl data1), .leaf (.int .i64 bit2), .leaf (.int .u32 mask3)] K w = S_winnowlaw5_StoreFlips data1 bit2 mask3 K w := by kernel_rfl
theorem go_winnowlaw5_StoreFlips (data1 : Sl) (bit2 : Int) (mask3 : Int) (K : Bool → World → Prop) (w : World) (h : S_winnowlaw5_StoreFlips data1 bit2 mask3 K w) : callK Try.prog 4 [.leaf (.sl data1), .leaf (.int .i64 bit2), .leaf (.int .u32 mask3)] w (.one (.leaf (.bool))) K := by
  refine WF_sound (n := N_winnowlaw5_StoreFlips) CS_ok mixed Try.func4 ?_
  rw [is_winnowlaw5_StoreFlips]
  exact h

-- 5 winnow/winnowlaw5.StoreSizes
def S_winnowlaw5_StoreSizes (data1 : Sl) (by_2 : Int) (K : Bool → World → Prop) (w : World) : Prop :=
  callK Try.prog 9 [.leaf (.sl data1)] w (.one (.leaf (.sl))) fun a3 w_4 =>
  callK Try.prog 10 [] w_4 (.one (.leaf (.ptr))) fun p5 w_6 =>
  joinK [.bool] (fun k7 =>
    ifK p5.isNone
    (k7 true w_6)
    (callK Try.prog 11 [.leaf (.ptr p5), .leaf (.str [97])] w_6 (.one (.leaf (.int .i64))) fun n8 w_9 =>
      ifK (n8 != 0)
      (k7 true w_9)
      (callK Try.prog 12 [.leaf (.ptr p5), .leaf (.str [97]), .leaf (.sl a3)] w_9 (.one (.leaf (.int .i64))) fun n10 w_11 =>
        k7 (n10 != 0) w_11))) fun t2912 w_13 =>
  ifK t2912
  (K false w_13)
  (joinK [.bool] (fun k14 =>
      ifK (decide (1048576 < by_2))
      (k14 (decide (by_2 ≤ w64 (268435456 - (a3.len : Int)))) w_13)
      (k14 false w_13)) fun t3915 w_16 =>
    joinK [.int .i64] (fun k17 =>
      ifK t3915
      (k17 1048576 w_16)
      (k17 by_2 w_16)) fun by_18 w_19 =>
    callK Try.prog 19 [.leaf (.ptr p5), .leaf (.str [97]), .leaf (.int .i64 by_18)] w_19 (.one (.leaf (.int .i64))) fun n20 w_21 =>
    joinK [.bool] (fun k22 =>
      ifK (decide (by_18 < w64 (0 - (a3.len : Int))))
      (k22 true w_21)
      (k22 (decide (w64 (268435456 - (a3.len : Int)) < by_18)) w_21)) fun t5223 w_24 =>
    ifK t5223
    (joinK [.bool] (fun k25 =>
        ifK (n20 == 56)
        (callK Try.prog 17 [] w_24 (.one (.leaf (.bool))) fun c26 w_27 =>
          k25 c26 w_27)
        (k25 false w_24)) fun t428 w_29 =>
      K t428 w_29)
    (callK Try.prog 13 [.leaf (.ptr p5), .leaf (.str [97])] w_24 (.one (.leaf (.int .i64))) fun n30 w_31 =>
      callK Try.prog 20 [.leaf (.ptr p5), .leaf (.str [97])] w_31 (.tup [.leaf (.int .i64), .leaf (.int .i64)]) fun n32 n33 w_34 =>
      callK Try.prog 14 [.leaf (.ptr p5), .leaf (.str [97]), .leaf (.int .i64 0), .leaf (.int .i64 (w64 ((w64 ((a3.len : Int) + by_18)) + 1)))] w_34 (.tup [.leaf (.sl), .leaf (.int .i64)]) fun a35 n36 w_37 =>
      joinK [.bool] (fun k38 =>
        ifK (n20 != 0)
        (k38 true w_37)
        (ifK (n30 != 0)
          (k38 true w_37)
          (ifK (n33 != 0)
            (k38 true w_37)
            (ifK (n36 != 0)
              (k38 true w_37)
              (ifK (n32 != (w64 ((a3.len : Int) + by_18)))
                (k38 true w_37)
                (k38 ((a35.len : Int) != n32) w_37)))))) fun t10039 w_40 =>
      ifK t10039
      (K false w_40)
      (joinK [] (fun k41 =>
          loopL [.int .i64] (fun i43 w_44 again42 =>
            ifK (decide (i43 < n32))
            (joinK [.bool] (fun k45 =>
                drawK w_44 fun D w_46 =>
                ifK (decide (i43 < (a3.len : Int)))
                (ix a35 1 i43 fun b47 o48 =>
                  ldD D w_46 (.int .u8) b47 o48 fun n49 =>
                  ix a3 1 i43 fun b50 o51 =>
                  ldD D w_46 (.int .u8) b50 o51 fun n52 =>
                  ifK (n49 != n52)
                  (k45 true w_46)
                  (ifK (decide ((a3.len : Int) ≤ i43))
                    (ix a35 1 i43 fun b53 o54 =>
                      ldD D w_46 (.int .u8) b53 o54 fun n55 =>
                      k45 (n55 != 0) w_46)
                    (k45 false w_46)))
                (ifK (decide ((a3.len : Int) ≤ i43))
                  (ix a35 1 i43 fun b56 o57 =>
                    ldD D w_46 (.int .u8) b56 o57 fun n58 =>
                    k45 (n58 != 0) w_46)
                  (k45 false w_46))) fun t13159 w_60 =>
              ifK t13159
              (K false w_60)
              (again42 (w64 (i43 + 1)) w_60))
            (k41 w_44)) [.int .i64 0] w_40) fun w_61 =>
        callK Try.prog 17 [] w_61 (.one (.leaf (.bool))) fun c62 w_63 =>
        K c62 w_63)))

def N_winnowlaw5_StoreSizes : Ann := (.mk none [] [] .done .nil (.mk none [] [] .done .nil (.mk none [] [] .done .nil (.mk none [] [] .done (.mk none [] [] .done (.mk (some [.tmp 29 (.leaf (.bool))]) [] [0, 1, 5] .done .nil .nil) .nil) (.mk none [] [] .done .nil (.mk none [] [] .done (.mk none [] [] .done (.mk (some [.tmp 39 (.leaf (.bool))]) [] [0, 1, 5, 6] .done .nil .nil) (.mk (some [.tmp 1 (.leaf (.int .i64))]) [] [0, 5, 6] .done .nil .nil)) (.mk none [] [] .done .nil (.mk none [] [] .done (.mk none [] [] .done (.mk (some [.tmp 52 (.leaf (.bool))]) [] [0, 1, 5, 6, 7] .done .nil .nil) (.mk none [] [] .done (.mk none [] [] .done (.mk (some [.tmp 4 (.leaf (.bool))]) [] [] .done .nil .nil) .nil) .nil)) (.mk none [] [] .done .nil (.mk none [] [] .done .nil (.mk none [] [] .done .nil (.mk none [] [] .done (.mk none [] [] .done (.mk (some [.tmp 100 (.leaf (.bool))]) [] [0, 6, 9, 11] .done .nil .nil) .nil) (.mk none [] [] .done (.mk none [] [] .done .nil (.mk (some []) [] [] .done (.mk none [.tmp 13 (.leaf (.int .i64))] [0, 6, 9, 11] .done (.mk none [] [] .done .nil (.mk none [] [] .done (.mk none [] [] .done (.mk none [] [] .done (.mk (some [.tmp 131 (.leaf (.bool))]) [] [0, 6, 9, 11, 13] (.take 0 (.take 1 (.take 2 (.take 3 (.split 3 (.take 4 (.take 5 (.take 6 (.take 7 (.take 8 (.take 9 (.take 10 (.take 11 (.take 12 (.take 13 (.take 14 (.split 14 (.take 15 (.take 16 (.take 17 (.take 18 (.take 19 (.take 20 (.take 21 (.take 22 (.take 23 (.take 24 (.take 25 .done))))))))))) (.take 15 (.take 16 (.take 17 (.take 18 (.split 18 (.take 19 (.take 20 (.take 21 (.take 22 (.take 23 (.take 24 (.take 25 .done))))))) (.take 19 (.take 20 (.take 21 (.take 22 (.take 23 (.take 24 (.take 25 .done)))))))))))))))))))))))) (.take 4 (.take 5 (.take 6 (.take 7 (.take 8 (.take 9 (.take 10 (.take 11 (.take 12 (.take 13 (.take 14 (.take 15 (.take 16 (.take 17 (.take 18 (.split 18 (.take 19 (.take 20 (.take 21 (.take 22 (.take 23 (.take 24 (.take 25 .done))))))) (.take 19 (.take 20 (.take 21 (.take 22 (.take 23 (.take 24 (.take 25 .done)))))))))))))))))))))))))))) .nil .nil) .nil) .nil) .nil)) .nil) .nil)) .nil)))))))))))))

theorem is_winnowlaw5_StoreSizes (data1 : Sl) (by_2 : Int) (K : Bool → World → Prop) (w : World) : WF Try.prog CS Try.f5 N_winnowlaw5_StoreSizes (.one (.leaf (.bool))) [.leaf (.sl data1), .leaf (.int .i64 by_2)] K w = S_winnowlaw5_StoreSizes data1 by_2 K w := by kernel_rfl
theorem go_winnowlaw5_StoreSizes (data1 : Sl) (by_2 : Int) (K : Bool → World → Prop) (w : World) (h : S_winnowlaw5_StoreSizes data1 by_2 K w) : callK Try.prog 5 [.leaf (.sl data1), .leaf (.int .i64 by_2)] w (.one (.leaf (.bool))) K := by
  refine WF_sound (n := N_winnowlaw5_StoreSizes) CS_ok mixed Try.func5 ?_
  rw [is_winnowlaw5_StoreSizes]
  exact h

-- 9 winnow/winnowlaw5.fit
def S_winnowlaw5_fit (b1 : Sl) (K : Sl → World → Prop) (w : World) : Prop :=
  ifK (decide (268435456 < (b1.len : Int)))
  (slx b1 1 none (some 268435456) none fun s2 =>
    K s2 w)
  (K b1 w)

def N_winnowlaw5_fit : Ann := .nil

theorem is_winnowlaw5_fit (b1 : Sl) (K : Sl → World → Prop) (w : World) : WF Try.prog CS Try.f9 N_winnowlaw5_fit (.one (.leaf (.sl))) [.leaf (.sl b1)] K w = S_winnowlaw5_fit b1 K w := by kernel_rfl
theorem go_winnowlaw5_fit (b1 : Sl) (K : Sl → World → Prop) (w : World) (h : S_winnowlaw5_fit b1 K w) : callK Try.prog 9 [.leaf (.sl b1)] w (.one (.leaf (.sl))) K := by
  refine WF_sound (n := N_winnowlaw5_fit) CS_ok mixed Try.func9 ?_
  rw [is_winnowlaw5_fit]
  exact h

-- 15 winnow/winnowlaw5.same
def S_winnowlaw5_same (a1 : Sl) (b2 : Sl) (K : Bool → World → Prop) (w : World) : Prop :=
  ifK ((a1.len : Int) != (b2.len : Int))
  (K false w)
  (joinK [] (fun k3 =>
      loopL [.int .i64] (fun i5 w_6 again4 =>
        ifK (decide (i5 < (a1.len : Int)))
        (drawK w_6 fun D w_7 =>
          ix a1 1 i5 fun b8 o9 =>
          ldD D w_7 (.int .u8) b8 o9 fun n10 =>
          ix b2 1 i5 fun b11 o12 =>
          ldD D w_7 (.int .u8) b11 o12 fun n13 =>
          ifK (n10 != n13)
          (K false w_7)
          (again4 (w64 (i5 + 1)) w_7))
        (k3 w_6)) [.int .i64 0] w) fun w_14 =>
    K true w_14)

def N_winnowlaw5_same : Ann := (.mk none [] [] .done .nil (.mk none [] [] .done .nil (.mk none [] [] .done (.mk none [] [] .done .nil (.mk (some []) [] [] .done (.mk none [.tmp 5 (.leaf (.int .i64))] [0, 1] .done (.mk none [] [] .done .nil (.mk none [] [] .done (.mk none [] [] .done (.mk none [] [] .done (.mk none [] [] (.take 0 (.take 1 (.take 2 (.take 3 (.take 4 (.take 5 (.take 6 (.take 7 (.take 8 .done))))))))) .nil .nil) .nil) .nil) .nil)) .nil) .nil)) .nil)))

theorem is_winnowlaw5_same (a1 : Sl) (b2 : Sl) (K : Bool → World → Prop) (w : World) : WF Try.prog CS Try.f15 N_winnowlaw5_same (.one (.leaf (.bool))) [.leaf (.sl a1), .leaf (.sl b2)] K w = S_winnowlaw5_same a1 b2 K w := by kernel_rfl
theorem go_winnowlaw5_same (a1 : Sl) (b2 : Sl) (K : Bool → World → Prop) (w : World) (h : S_winnowlaw5_same a1 b2 K w) : callK Try.prog 15 [.leaf (.sl a1), .leaf (.sl b2)] w (.one (.leaf (.bool))) K := by
  refine WF_sound (n := N_winnowlaw5_same) CS_ok mixed Try.func15 ?_
  rw [is_winnowlaw5_same]
  exact h

-- 17 winnow/winnowlaw5.head
def S_winnowlaw5_head  (K : Bool → World → Prop) (w : World) : Prop :=
  callK Try.prog 10 [] w (.one (.leaf (.ptr))) fun p1 w_2 =>
  joinK [.bool] (fun k3 =>
    ifK p1.isNone
    (k3 true w_2)
    (callK Try.prog 11 [.leaf (.ptr p1), .leaf (.str [97])] w_2 (.one (.leaf (.int .i64))) fun n4 w_5 =>
      ifK (n4 != 0)
      (k3 true w_5)
      (al w_5 5 [.int .u8 1, .int .u8 2, .int .u8 3] fun b6 w_7 =>
        callK Try.prog 12 [.leaf (.ptr p1), .leaf (.str [97]), .leaf (.sl (⟨some (b6, 0), 3, 3⟩))] w_7 (.one (.leaf (.int .i64))) fun n8 w_9 =>
        k3 (n8 != 0) w_9))) fun t2010 w_11 =>
  ifK t2010
  (K false w_11)
  (callK Try.prog 14 [.leaf (.ptr p1), .leaf (.str [97]), .leaf (.int .i64 0), .leaf (.int .i64 9)] w_11 (.tup [.leaf (.sl), .leaf (.int .i64)]) fun a12 n13 w_14 =>
    callK Try.prog 13 [.leaf (.ptr p1), .leaf (.str [97])] w_14 (.one (.leaf (.int .i64))) fun n15 w_16 =>
    callK Try.prog 14 [.leaf (.ptr p1), .leaf (.str [97]), .leaf (.int .i64 1), .leaf (.int .i64 9)] w_16 (.tup [.leaf (.sl), .leaf (.int .i64)]) fun a17 n18 w_19 =>
    joinK [.bool] (fun k20 =>
      ifK (n13 == 53)
      (ifK (n15 == 0)
        (ifK (n18 == 0)
          (al w_19 5 [.int .u8 2, .int .u8 3] fun b21 w_22 =>
            callK Try.prog 15 [.leaf (.sl a17), .leaf (.sl (⟨some (b21, 0), 2, 2⟩))] w_22 (.one (.leaf (.bool))) fun c23 w_24 =>
            k20 c23 w_24)
          (k20 false w_19))
        (k20 false w_19))
      (k20 false w_19)) fun t025 w_26 =>
    K t025 w_26)

def N_winnowlaw5_head : Ann := (.mk none [] [] .done .nil (.mk none [] [] .done .nil (.mk none [] [] .done (.mk none [] [] .done (.mk (some [.tmp 20 (.leaf (.bool))]) [] [1] .done .nil .nil) .nil) (.mk none [] [] .done .nil (.mk none [] [] .done .nil (.mk none [] [] .done .nil (.mk none [] [] .done (.mk (some [.tmp 0 (.leaf (.bool))]) [] [] .done .nil .nil) .nil)))))))

theorem is_winnowlaw5_head  (K : Bool → World → Prop) (w : World) : WF Try.prog CS Try.f17 N_winnowlaw5_head (.one (.leaf (.bool))) [] K w = S_winnowlaw5_head  K w := by kernel_rfl
theorem go_winnowlaw5_head  (K : Bool → World → Prop) (w : World) (h : S_winnowlaw5_head  K w) : callK Try.prog 17 [] w (.one (.leaf (.bool))) K := by
  refine WF_sound (n := N_winnowlaw5_head) CS_ok mixed Try.func17 ?_
  rw [is_winnowlaw5_head]
  exact h


end Go.Proofs.Ytjldecomhpngmaa
