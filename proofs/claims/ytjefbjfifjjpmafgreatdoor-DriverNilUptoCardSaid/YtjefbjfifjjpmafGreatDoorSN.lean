/- Readings: DriverNil. -/
import Derived.Test.YtjefbjfifjjpmafGreatDoorS0
namespace Go.Proofs.YtjefbjfifjjpmafGreatDoor
open Go.Vw
-- 3 winnow/winnowlaw21.DriverNil
def S_winnowlaw21_DriverNil  (K : Bool → World → Prop) (w : World) : Prop :=
  callK Tryz.prog 4 [.leaf (.ptr none), .leaf (.str [111]), .agg [.int .i64 0, .int .i64 0, .sl (⟨none, 0, 0⟩), .lit false, .int .i64 0, .int .i64 0, .int .i64 0, .int .i64 0, .int .i64 0, .int .i64 0], .leaf (.sl (⟨none, 0, 0⟩)), .leaf (.sl (⟨none, 0, 0⟩))] w (.tup [.leaf (.ptr), .leaf (.int .i64)]) fun p1 n2 w_3 =>
  callK Tryz.prog 5 [.leaf (.ptr p1), .leaf (.int .i64 0)] w_3 (.tup [.agg [.int .i64, .int .i64, .int .i64, .bool, .int .i64, .int .i64, .int .i64, .int .i64, .bool], .leaf (.int .i64)]) fun n4 n5 n6 c7 n8 n9 n10 n11 c12 n13 w_14 =>
  al w_14 34 [.int .i64 0, .int .i64 0, .int .i64 0, .lit false, .int .i64 0, .int .i64 0, .int .i64 0, .int .i64 0, .lit false] fun b15 w_16 =>
  st w_16 b15 0 [.int .i64 n4, .int .i64 n5, .int .i64 n6, .bool c7, .int .i64 n8, .int .i64 n9, .int .i64 n10, .int .i64 n11, .bool c12] fun w_17 =>
  callK Tryz.prog 6 [.leaf (.ptr p1)] w_17 (.one (.agg [.int .i64, .sl, .sl, .bool])) fun n18 a19 a20 c21 w_22 =>
  al w_22 39 [.int .i64 0, .sl (⟨none, 0, 0⟩), .sl (⟨none, 0, 0⟩), .lit false] fun b23 w_24 =>
  st w_24 b23 0 [.int .i64 n18, .sl a19, .sl a20, .bool c21] fun w_25 =>
  callK Tryz.prog 7 [.leaf (.ptr p1)] w_25 (.tup [.agg [.int .i64, .int .i64, .int .i64, .int .i64, .int .i64, .int .i64], .leaf (.bool)]) fun n26 n27 n28 n29 n30 n31 c32 w_33 =>
  al w_33 42 [.int .i64 0, .int .i64 0, .int .i64 0, .int .i64 0, .int .i64 0, .int .i64 0] fun b34 w_35 =>
  st w_35 b34 0 [.int .i64 n26, .int .i64 n27, .int .i64 n28, .int .i64 n29, .int .i64 n30, .int .i64 n31] fun w_36 =>
  callK Tryz.prog 8 [.leaf (.ptr none), .leaf (.str [111]), .agg [.int .i64 0, .int .i64 0, .sl (⟨none, 0, 0⟩), .lit false, .int .i64 0, .int .i64 0, .int .i64 0, .int .i64 0, .int .i64 0, .int .i64 0], .leaf (.sl (⟨none, 0, 0⟩)), .leaf (.sl (⟨none, 0, 0⟩)), .leaf (.sl (⟨none, 0, 0⟩))] w_36 (.tup [.agg [.int .i64, .int .i64, .int .i64, .int .i64, .int .i64, .int .i64], .leaf (.int .i64)]) fun n37 n38 n39 n40 n41 n42 n43 w_44 =>
  al w_44 42 [.int .i64 0, .int .i64 0, .int .i64 0, .int .i64 0, .int .i64 0, .int .i64 0] fun b45 w_46 =>
  st w_46 b45 0 [.int .i64 n37, .int .i64 n38, .int .i64 n39, .int .i64 n40, .int .i64 n41, .int .i64 n42] fun w_47 =>
  joinK [.bool] (fun k48 =>
    ifK p1.isNone
    (ifK (n2 == 1)
      (ifK (n13 == 1)
        (ld w_47 (.int .i64) b15 0 fun n49 =>
          ld w_47 (.int .i64) b15 1 fun n50 =>
          ld w_47 (.int .i64) b15 2 fun n51 =>
          ld w_47 .bool b15 3 fun c52 =>
          ld w_47 (.int .i64) b15 4 fun n53 =>
          ld w_47 (.int .i64) b15 5 fun n54 =>
          ld w_47 (.int .i64) b15 6 fun n55 =>
          ld w_47 (.int .i64) b15 7 fun n56 =>
          ld w_47 .bool b15 8 fun c57 =>
          opF Tryz.prog (vS (do eqGuard .eql 34 (.tmp 43) (.tmp 44) (.agg #[(LV.toV (.int .i64 n49)), (LV.toV (.int .i64 n50)), (LV.toV (.int .i64 n51)), (LV.toV (.bool c52)), (LV.toV (.int .i64 n53)), (LV.toV (.int .i64 n54)), (LV.toV (.int .i64 n55)), (LV.toV (.int .i64 n56)), (LV.toV (.bool c57))]) (.agg #[(LV.toV (.int .i64 0)), (LV.toV (.int .i64 0)), (LV.toV (.int .i64 0)), (LV.toV (.lit false)), (LV.toV (.int .i64 0)), (LV.toV (.int .i64 0)), (LV.toV (.int .i64 0)), (LV.toV (.int .i64 0)), (LV.toV (.lit false))]); binOp .eql 34 (.agg #[(LV.toV (.int .i64 n49)), (LV.toV (.int .i64 n50)), (LV.toV (.int .i64 n51)), (LV.toV (.bool c52)), (LV.toV (.int .i64 n53)), (LV.toV (.int .i64 n54)), (LV.toV (.int .i64 n55)), (LV.toV (.int .i64 n56)), (LV.toV (.bool c57))]) (.agg #[(LV.toV (.int .i64 0)), (LV.toV (.int .i64 0)), (LV.toV (.int .i64 0)), (LV.toV (.lit false)), (LV.toV (.int .i64 0)), (LV.toV (.int .i64 0)), (LV.toV (.int .i64 0)), (LV.toV (.int .i64 0)), (LV.toV (.lit false))]))) w_47 (.one (.leaf (.bool))) fun c59 w_58 =>
          ifK c59
          (ld w_58 (.int .i64) b23 0 fun n60 =>
            ld w_58 .sl b23 1 fun a61 =>
            ld w_58 .sl b23 2 fun a62 =>
            ld w_58 .bool b23 3 fun c63 =>
            callK Tryz.prog 9 [.agg [.int .i64 n60, .sl a61, .sl a62, .bool c63], .agg [.int .i64 0, .sl (⟨none, 0, 0⟩), .sl (⟨none, 0, 0⟩), .lit false]] w_58 (.one (.leaf (.bool))) fun c64 w_65 =>
            ifK c64
            (ld w_65 (.int .i64) b34 0 fun n66 =>
              ld w_65 (.int .i64) b34 1 fun n67 =>
              ld w_65 (.int .i64) b34 2 fun n68 =>
              ld w_65 (.int .i64) b34 3 fun n69 =>
              ld w_65 (.int .i64) b34 4 fun n70 =>
              ld w_65 (.int .i64) b34 5 fun n71 =>
              opF Tryz.prog (vS (do eqGuard .eql 42 (.tmp 53) (.tmp 54) (.agg #[(LV.toV (.int .i64 n66)), (LV.toV (.int .i64 n67)), (LV.toV (.int .i64 n68)), (LV.toV (.int .i64 n69)), (LV.toV (.int .i64 n70)), (LV.toV (.int .i64 n71))]) (.agg #[(LV.toV (.int .i64 0)), (LV.toV (.int .i64 0)), (LV.toV (.int .i64 0)), (LV.toV (.int .i64 0)), (LV.toV (.int .i64 0)), (LV.toV (.int .i64 0))]); binOp .eql 42 (.agg #[(LV.toV (.int .i64 n66)), (LV.toV (.int .i64 n67)), (LV.toV (.int .i64 n68)), (LV.toV (.int .i64 n69)), (LV.toV (.int .i64 n70)), (LV.toV (.int .i64 n71))]) (.agg #[(LV.toV (.int .i64 0)), (LV.toV (.int .i64 0)), (LV.toV (.int .i64 0)), (LV.toV (.int .i64 0)), (LV.toV (.int .i64 0)), (LV.toV (.int .i64 0))]))) w_65 (.one (.leaf (.bool))) fun c73 w_72 =>
              ifK c73
              (ifK (!c32)
                (ld w_72 (.int .i64) b45 0 fun n74 =>
                  ld w_72 (.int .i64) b45 1 fun n75 =>
                  ld w_72 (.int .i64) b45 2 fun n76 =>
                  ld w_72 (.int .i64) b45 3 fun n77 =>
                  ld w_72 (.int .i64) b45 4 fun n78 =>
                  ld w_72 (.int .i64) b45 5 fun n79 =>
                  opF Tryz.prog (vS (do eqGuard .eql 42 (.tmp 62) (.tmp 63) (.agg #[(LV.toV (.int .i64 n74)), (LV.toV (.int .i64 n75)), (LV.toV (.int .i64 n76)), (LV.toV (.int .i64 n77)), (LV.toV (.int .i64 n78)), (LV.toV (.int .i64 n79))]) (.agg #[(LV.toV (.int .i64 0)), (LV.toV (.int .i64 0)), (LV.toV (.int .i64 0)), (LV.toV (.int .i64 0)), (LV.toV (.int .i64 0)), (LV.toV (.int .i64 0))]); binOp .eql 42 (.agg #[(LV.toV (.int .i64 n74)), (LV.toV (.int .i64 n75)), (LV.toV (.int .i64 n76)), (LV.toV (.int .i64 n77)), (LV.toV (.int .i64 n78)), (LV.toV (.int .i64 n79))]) (.agg #[(LV.toV (.int .i64 0)), (LV.toV (.int .i64 0)), (LV.toV (.int .i64 0)), (LV.toV (.int .i64 0)), (LV.toV (.int .i64 0)), (LV.toV (.int .i64 0))]))) w_72 (.one (.leaf (.bool))) fun c81 w_80 =>
                  ifK c81
                  (k48 (n43 == 1) w_80)
                  (k48 false w_80))
                (k48 false w_72))
              (k48 false w_72))
            (k48 false w_65))
          (k48 false w_58))
        (k48 false w_47))
      (k48 false w_47))
    (k48 false w_47)) fun t082 w_83 =>
  K t082 w_83

def N_winnowlaw21_DriverNil : Ann := (.mk none [] [] .done .nil (.mk none [] [] .done .nil (.mk none [] [] .done .nil (.mk none [] [] .done .nil (.mk none [] [] .done .nil (.mk none [] [] .done .nil (.mk none [] [] .done (.mk (some [.tmp 0 (.leaf (.bool))]) [] [] .done .nil .nil) .nil)))))))

theorem is_winnowlaw21_DriverNil  (K : Bool → World → Prop) (w : World) : WF Tryz.prog CS Tryz.f3 N_winnowlaw21_DriverNil (.one (.leaf (.bool))) [] K w = S_winnowlaw21_DriverNil  K w := by kernel_rfl
theorem go_winnowlaw21_DriverNil  (K : Bool → World → Prop) (w : World) (h : S_winnowlaw21_DriverNil  K w) : callK Tryz.prog 3 [] w (.one (.leaf (.bool))) K := by
  refine WF_sound (n := N_winnowlaw21_DriverNil) CS_ok mixed Tryz.func3 ?_
  rw [is_winnowlaw21_DriverNil]
  exact h

-- 4 winnow/driver.New
def S_driver_New (s1 : PA) (out2 : List UInt8) (j_0_3 : Int) (j_1_4 : Int) (j_2_5 : Sl) (j_3_6 : Bool) (j_4_7 : Int) (j_5_8 : Int) (j_6_9 : Int) (j_7_10 : Int) (j_8_11 : Int) (j_9_12 : Int) (splits13 : Sl) (faults14 : Sl) (K : PA → Int → World → Prop) (w : World) : Prop :=
  al w 30 [.int .i64 j_0_3, .int .i64 j_1_4, .sl j_2_5, .bool j_3_6, .int .i64 j_4_7, .int .i64 j_5_8, .int .i64 j_6_9, .int .i64 j_7_10, .int .i64 j_8_11, .int .i64 j_9_12] fun b15 w_16 =>
  ifK s1.isNone
  (K none 1 w_16)
  (callK Tryz.prog 10 [.leaf (.str out2)] w_16 (.one (.leaf (.int .i64))) fun n17 w_18 =>
    ifK (n17 != 0)
    (K none n17 w_18)
    (callK Tryz.prog 11 [.leaf (.sl splits13)] w_18 (.one (.leaf (.int .i64))) fun n19 w_20 =>
      ifK (n19 != 0)
      (K none n19 w_20)
      (ld w_20 (.int .i64) b15 0 fun n21 =>
        ld w_20 (.int .i64) b15 1 fun n22 =>
        ld w_20 .sl b15 2 fun a23 =>
        ld w_20 .bool b15 3 fun c24 =>
        ld w_20 (.int .i64) b15 4 fun n25 =>
        ld w_20 (.int .i64) b15 5 fun n26 =>
        ld w_20 (.int .i64) b15 6 fun n27 =>
        ld w_20 (.int .i64) b15 7 fun n28 =>
        ld w_20 (.int .i64) b15 8 fun n29 =>
        ld w_20 (.int .i64) b15 9 fun n30 =>
        callK Tryz.prog 12 [.agg [.int .i64 n21, .int .i64 n22, .sl a23, .bool c24, .int .i64 n25, .int .i64 n26, .int .i64 n27, .int .i64 n28, .int .i64 n29, .int .i64 n30]] w_20 (.one (.leaf (.int .i64))) fun n31 w_32 =>
        ifK (n31 != 0)
        (K none n31 w_32)
        (callK Tryz.prog 13 [.leaf (.sl faults14)] w_32 (.one (.leaf (.int .i64))) fun n33 w_34 =>
          ifK (n33 != 0)
          (K none n33 w_34)
          (callK Tryz.prog 14 [.leaf (.ptr s1), .leaf (.str out2)] w_34 (.one (.leaf (.bool))) fun c35 w_36 =>
            ifK c35
            (K none 210 w_36)
            (callK Tryz.prog 15 [.leaf (.sl faults14)] w_36 (.tup [.leaf (.ptr), .leaf (.int .i64)]) fun p37 n38 w_39 =>
              ld w_39 (.int .i64) b15 1 fun n40 =>
              ld w_39 (.int .i64) b15 6 fun n41 =>
              callK Tryz.prog 16 [.leaf (.int .i64 (splits13.len : Int)), .leaf (.int .i64 n40), .leaf (.int .i64 n41)] w_39 (.tup [.agg [.int .i64, .sl, .sl, .bool], .leaf (.int .i64)]) fun n42 a43 a44 c45 n46 w_47 =>
              al w_47 39 [.int .i64 0, .sl (⟨none, 0, 0⟩), .sl (⟨none, 0, 0⟩), .lit false] fun b48 w_49 =>
              st w_49 b48 0 [.int .i64 n42, .sl a43, .sl a44, .bool c45] fun w_50 =>
              ifK (n46 != 0)
              (K none n46 w_50)
              (al w_50 9 [] fun b51 w_52 =>
                ld w_52 .sl b15 2 fun a53 =>
                ap w_52 9 1 16 [.str []] (⟨some (b51, 0), 0, 0⟩) a53 fun a54 w_55 =>
                st w_55 b15 2 [.sl a54] fun w_56 =>
                drawK w_56 fun D w_57 =>
                ldD D w_57 (.int .i64) b15 0 fun n58 =>
                ldD D w_57 (.int .i64) b15 1 fun n59 =>
                ldD D w_57 .sl b15 2 fun a60 =>
                ldD D w_57 .bool b15 3 fun c61 =>
                ldD D w_57 (.int .i64) b15 4 fun n62 =>
                ldD D w_57 (.int .i64) b15 5 fun n63 =>
                ldD D w_57 (.int .i64) b15 6 fun n64 =>
                ldD D w_57 (.int .i64) b15 7 fun n65 =>
                ldD D w_57 (.int .i64) b15 8 fun n66 =>
                ldD D w_57 (.int .i64) b15 9 fun n67 =>
                ldD D w_57 (.int .i64) b48 0 fun n68 =>
                ldD D w_57 .sl b48 1 fun a69 =>
                ldD D w_57 .sl b48 2 fun a70 =>
                ldD D w_57 .bool b48 3 fun c71 =>
                False)))))))

def N_driver_New : Ann := (.mk none [] [] .done .nil (.mk none [] [] .done .nil (.mk none [] [] .done .nil (.mk none [] [] .done .nil (.mk none [] [] .done .nil (.mk none [] [] .done .nil (.mk none [] [] .done .nil (.mk none [] [] .done .nil (.mk none [] [] .done .nil (.mk none [] [] .done .nil (.mk none [] [] .done .nil (.mk none [] [] .done (.mk none [] [] (.take 0 (.take 1 (.take 3 (.take 5 (.take 6 (.take 8 (.take 10 .done))))))) .nil .nil) .nil))))))))))))

theorem is_driver_New (s1 : PA) (out2 : List UInt8) (j_0_3 : Int) (j_1_4 : Int) (j_2_5 : Sl) (j_3_6 : Bool) (j_4_7 : Int) (j_5_8 : Int) (j_6_9 : Int) (j_7_10 : Int) (j_8_11 : Int) (j_9_12 : Int) (splits13 : Sl) (faults14 : Sl) (K : PA → Int → World → Prop) (w : World) : WF Tryz.prog CS Tryz.f4 N_driver_New (.tup [.leaf (.ptr), .leaf (.int .i64)]) [.leaf (.ptr s1), .leaf (.str out2), .agg [.int .i64 j_0_3, .int .i64 j_1_4, .sl j_2_5, .bool j_3_6, .int .i64 j_4_7, .int .i64 j_5_8, .int .i64 j_6_9, .int .i64 j_7_10, .int .i64 j_8_11, .int .i64 j_9_12], .leaf (.sl splits13), .leaf (.sl faults14)] K w = S_driver_New s1 out2 j_0_3 j_1_4 j_2_5 j_3_6 j_4_7 j_5_8 j_6_9 j_7_10 j_8_11 j_9_12 splits13 faults14 K w := by kernel_rfl
theorem go_driver_New (s1 : PA) (out2 : List UInt8) (j_0_3 : Int) (j_1_4 : Int) (j_2_5 : Sl) (j_3_6 : Bool) (j_4_7 : Int) (j_5_8 : Int) (j_6_9 : Int) (j_7_10 : Int) (j_8_11 : Int) (j_9_12 : Int) (splits13 : Sl) (faults14 : Sl) (K : PA → Int → World → Prop) (w : World) (h : S_driver_New s1 out2 j_0_3 j_1_4 j_2_5 j_3_6 j_4_7 j_5_8 j_6_9 j_7_10 j_8_11 j_9_12 splits13 faults14 K w) : callK Tryz.prog 4 [.leaf (.ptr s1), .leaf (.str out2), .agg [.int .i64 j_0_3, .int .i64 j_1_4, .sl j_2_5, .bool j_3_6, .int .i64 j_4_7, .int .i64 j_5_8, .int .i64 j_6_9, .int .i64 j_7_10, .int .i64 j_8_11, .int .i64 j_9_12], .leaf (.sl splits13), .leaf (.sl faults14)] w (.tup [.leaf (.ptr), .leaf (.int .i64)]) K := by
  refine WF_sound (n := N_driver_New) CS_ok mixed Tryz.func4 ?_
  rw [is_driver_New]
  exact h

-- 5 (*winnow/driver.Driver).Step
def S_driver_Driver_Step (d1 : PA) (pick2 : Int) (K : Int → Int → Int → Bool → Int → Int → Int → Int → Bool → Int → World → Prop) (w : World) : Prop :=
  al w 22 [.ptr d1] fun b3 w_4 =>
  al w_4 34 [.int .i64 0, .int .i64 0, .int .i64 0, .lit false, .int .i64 0, .int .i64 0, .int .i64 0, .int .i64 0, .lit false] fun b5 w_6 =>
  ld w_6 .ptr b3 0 fun p7 =>
  ifK p7.isNone
  (ld w_6 (.int .i64) b5 0 fun n8 =>
    ld w_6 (.int .i64) b5 1 fun n9 =>
    ld w_6 (.int .i64) b5 2 fun n10 =>
    ld w_6 .bool b5 3 fun c11 =>
    ld w_6 (.int .i64) b5 4 fun n12 =>
    ld w_6 (.int .i64) b5 5 fun n13 =>
    ld w_6 (.int .i64) b5 6 fun n14 =>
    ld w_6 (.int .i64) b5 7 fun n15 =>
    ld w_6 .bool b5 8 fun c16 =>
    st w_6 b5 0 [.int .i64 n8, .int .i64 n9, .int .i64 n10, .bool c11, .int .i64 n12, .int .i64 n13, .int .i64 n14, .int .i64 n15, .bool c16] fun w_17 =>
    ld w_17 (.int .i64) b5 0 fun n18 =>
    ld w_17 (.int .i64) b5 1 fun n19 =>
    ld w_17 (.int .i64) b5 2 fun n20 =>
    ld w_17 .bool b5 3 fun c21 =>
    ld w_17 (.int .i64) b5 4 fun n22 =>
    ld w_17 (.int .i64) b5 5 fun n23 =>
    ld w_17 (.int .i64) b5 6 fun n24 =>
    ld w_17 (.int .i64) b5 7 fun n25 =>
    ld w_17 .bool b5 8 fun c26 =>
    K n18 n19 n20 c21 n22 n23 n24 n25 c26 1 w_17)
  (ld w_6 .ptr b3 0 fun p27 =>
    dr p27 fun b28 o29 =>
    ld w_6 .bool b28 (o29 + 28) fun c30 =>
    ifK c30
    (st w_6 b5 0 [.int .i64 0, .int .i64 0, .int .i64 0, .lit false, .int .i64 3, .int .i64 0, .int .i64 0, .int .i64 0, .lit false] fun w_31 =>
      ld w_31 (.int .i64) b5 0 fun n32 =>
      ld w_31 (.int .i64) b5 1 fun n33 =>
      ld w_31 (.int .i64) b5 2 fun n34 =>
      ld w_31 .bool b5 3 fun c35 =>
      ld w_31 (.int .i64) b5 4 fun n36 =>
      ld w_31 (.int .i64) b5 5 fun n37 =>
      ld w_31 (.int .i64) b5 6 fun n38 =>
      ld w_31 (.int .i64) b5 7 fun n39 =>
      ld w_31 .bool b5 8 fun c40 =>
      K n32 n33 n34 c35 n36 n37 n38 n39 c40 0 w_31)
    (ld w_6 .ptr b3 0 fun p41 =>
      dr p41 fun b42 o43 =>
      ld w_6 (.int .i64) b42 (o43 + 15) fun n44 =>
      ld w_6 .sl b42 (o43 + 15 + 1) fun a45 =>
      ld w_6 .sl b42 (o43 + 15 + 2) fun a46 =>
      ld w_6 .bool b42 (o43 + 15 + 3) fun c47 =>
      callK Tryz.prog 17 [.agg [.int .i64 n44, .sl a45, .sl a46, .bool c47]] w_6 (.one (.leaf (.sl))) fun a48 w_49 =>
      ifK ((a48.len : Int) == 0)
      (st w_49 b5 0 [.int .i64 0, .int .i64 0, .int .i64 0, .lit false, .int .i64 3, .int .i64 0, .int .i64 0, .int .i64 0, .lit false] fun w_50 =>
        ld w_50 (.int .i64) b5 0 fun n51 =>
        ld w_50 (.int .i64) b5 1 fun n52 =>
        ld w_50 (.int .i64) b5 2 fun n53 =>
        ld w_50 .bool b5 3 fun c54 =>
        ld w_50 (.int .i64) b5 4 fun n55 =>
        ld w_50 (.int .i64) b5 5 fun n56 =>
        ld w_50 (.int .i64) b5 6 fun n57 =>
        ld w_50 (.int .i64) b5 7 fun n58 =>
        ld w_50 .bool b5 8 fun c59 =>
        K n51 n52 n53 c54 n55 n56 n57 n58 c59 0 w_50)
      ((a48.len : Int) ≠ 0 ∧
        joinK [.int .i64] (fun k60 =>
          ifK (decide (pick2.tmod (a48.len : Int) < 0))
          (k60 (w64 ((pick2.tmod (a48.len : Int)) + (a48.len : Int))) w_49)
          (k60 (pick2.tmod (a48.len : Int)) w_49)) fun at_61 w_62 =>
        False)))

def N_driver_Driver_Step : Ann := (.mk none [] [] .done .nil (.mk none [] [] .done .nil (.mk none [] [] .done .nil (.mk none [] [] .done .nil (.mk none [] [] .done .nil (.mk none [] [] .done .nil (.mk none [] [] .done (.mk none [] [] .done .nil (.mk (some [.tmp 7 (.leaf (.int .i64))]) [] [2, 4, 6] .done .nil .nil)) .nil)))))))

theorem is_driver_Driver_Step (d1 : PA) (pick2 : Int) (K : Int → Int → Int → Bool → Int → Int → Int → Int → Bool → Int → World → Prop) (w : World) : WF Tryz.prog CS Tryz.f5 N_driver_Driver_Step (.tup [.agg [.int .i64, .int .i64, .int .i64, .bool, .int .i64, .int .i64, .int .i64, .int .i64, .bool], .leaf (.int .i64)]) [.leaf (.ptr d1), .leaf (.int .i64 pick2)] K w = S_driver_Driver_Step d1 pick2 K w := by kernel_rfl
theorem go_driver_Driver_Step (d1 : PA) (pick2 : Int) (K : Int → Int → Int → Bool → Int → Int → Int → Int → Bool → Int → World → Prop) (w : World) (h : S_driver_Driver_Step d1 pick2 K w) : callK Tryz.prog 5 [.leaf (.ptr d1), .leaf (.int .i64 pick2)] w (.tup [.agg [.int .i64, .int .i64, .int .i64, .bool, .int .i64, .int .i64, .int .i64, .int .i64, .bool], .leaf (.int .i64)]) K := by
  refine WF_sound (n := N_driver_Driver_Step) CS_ok mixed Tryz.func5 ?_
  rw [is_driver_Driver_Step]
  exact h

-- 6 (*winnow/driver.Driver).Book
def S_driver_Driver_Book (d1 : PA) (K : Int → Sl → Sl → Bool → World → Prop) (w : World) : Prop :=
  al w 39 [.int .i64 0, .sl (⟨none, 0, 0⟩), .sl (⟨none, 0, 0⟩), .lit false] fun b2 w_3 =>
  ifK d1.isNone
  (st w_3 b2 0 [.int .i64 0, .sl (⟨none, 0, 0⟩), .sl (⟨none, 0, 0⟩), .lit false] fun w_4 =>
    ld w_4 (.int .i64) b2 0 fun n5 =>
    ld w_4 .sl b2 1 fun a6 =>
    ld w_4 .sl b2 2 fun a7 =>
    ld w_4 .bool b2 3 fun c8 =>
    K n5 a6 a7 c8 w_4)
  (dr d1 fun b9 o10 =>
    ld w_3 (.int .i64) b9 (o10 + 15) fun n11 =>
    ld w_3 .sl b9 (o10 + 15 + 1) fun a12 =>
    ld w_3 .sl b9 (o10 + 15 + 2) fun a13 =>
    ld w_3 .bool b9 (o10 + 15 + 3) fun c14 =>
    al w_3 39 [.int .i64 0, .sl (⟨none, 0, 0⟩), .sl (⟨none, 0, 0⟩), .lit false] fun b15 w_16 =>
    st w_16 b15 0 [.int .i64 n11, .sl a12, .sl a13, .bool c14] fun w_17 =>
    al w_17 81 [] fun b18 w_19 =>
    ld w_19 .sl b15 1 fun a20 =>
    ap w_19 81 3 24 [.int .i64 0, .int .i64 0, .int .i64 0] (⟨some (b18, 0), 0, 0⟩) a20 fun a21 w_22 =>
    st w_22 b15 1 [.sl a21] fun w_23 =>
    al w_23 81 [] fun b24 w_25 =>
    ld w_25 .sl b15 2 fun a26 =>
    ap w_25 81 3 24 [.int .i64 0, .int .i64 0, .int .i64 0] (⟨some (b24, 0), 0, 0⟩) a26 fun a27 w_28 =>
    st w_28 b15 2 [.sl a27] fun w_29 =>
    ld w_29 (.int .i64) b15 0 fun n30 =>
    ld w_29 .sl b15 1 fun a31 =>
    ld w_29 .sl b15 2 fun a32 =>
    ld w_29 .bool b15 3 fun c33 =>
    st w_29 b2 0 [.int .i64 n30, .sl a31, .sl a32, .bool c33] fun w_34 =>
    ld w_34 (.int .i64) b2 0 fun n35 =>
    ld w_34 .sl b2 1 fun a36 =>
    ld w_34 .sl b2 2 fun a37 =>
    ld w_34 .bool b2 3 fun c38 =>
    K n35 a36 a37 c38 w_34)

def N_driver_Driver_Book : Ann := .nil

theorem is_driver_Driver_Book (d1 : PA) (K : Int → Sl → Sl → Bool → World → Prop) (w : World) : WF Tryz.prog CS Tryz.f6 N_driver_Driver_Book (.one (.agg [.int .i64, .sl, .sl, .bool])) [.leaf (.ptr d1)] K w = S_driver_Driver_Book d1 K w := by kernel_rfl
theorem go_driver_Driver_Book (d1 : PA) (K : Int → Sl → Sl → Bool → World → Prop) (w : World) (h : S_driver_Driver_Book d1 K w) : callK Tryz.prog 6 [.leaf (.ptr d1)] w (.one (.agg [.int .i64, .sl, .sl, .bool])) K := by
  refine WF_sound (n := N_driver_Driver_Book) CS_ok mixed Tryz.func6 ?_
  rw [is_driver_Driver_Book]
  exact h

-- 7 (*winnow/driver.Driver).Over
def S_driver_Driver_Over (d1 : PA) (K : Int → Int → Int → Int → Int → Int → Bool → World → Prop) (w : World) : Prop :=
  al w 42 [.int .i64 0, .int .i64 0, .int .i64 0, .int .i64 0, .int .i64 0, .int .i64 0] fun b2 w_3 =>
  joinK [.bool] (fun k4 =>
    ifK d1.isNone
    (k4 true w_3)
    (dr d1 fun b5 o6 =>
      ld w_3 .bool b5 (o6 + 28) fun c7 =>
      k4 (!c7) w_3)) fun t128 w_9 =>
  ifK t128
  (st w_9 b2 0 [.int .i64 0, .int .i64 0, .int .i64 0, .int .i64 0, .int .i64 0, .int .i64 0] fun w_10 =>
    ld w_10 (.int .i64) b2 0 fun n11 =>
    ld w_10 (.int .i64) b2 1 fun n12 =>
    ld w_10 (.int .i64) b2 2 fun n13 =>
    ld w_10 (.int .i64) b2 3 fun n14 =>
    ld w_10 (.int .i64) b2 4 fun n15 =>
    ld w_10 (.int .i64) b2 5 fun n16 =>
    K n11 n12 n13 n14 n15 n16 false w_10)
  (dr d1 fun b17 o18 =>
    ld w_9 (.int .i64) b17 (o18 + 22) fun n19 =>
    ld w_9 (.int .i64) b17 (o18 + 22 + 1) fun n20 =>
    ld w_9 (.int .i64) b17 (o18 + 22 + 2) fun n21 =>
    ld w_9 (.int .i64) b17 (o18 + 22 + 3) fun n22 =>
    ld w_9 (.int .i64) b17 (o18 + 22 + 4) fun n23 =>
    ld w_9 (.int .i64) b17 (o18 + 22 + 5) fun n24 =>
    st w_9 b2 0 [.int .i64 n19, .int .i64 n20, .int .i64 n21, .int .i64 n22, .int .i64 n23, .int .i64 n24] fun w_25 =>
    ld w_25 (.int .i64) b2 0 fun n26 =>
    ld w_25 (.int .i64) b2 1 fun n27 =>
    ld w_25 (.int .i64) b2 2 fun n28 =>
    ld w_25 (.int .i64) b2 3 fun n29 =>
    ld w_25 (.int .i64) b2 4 fun n30 =>
    ld w_25 (.int .i64) b2 5 fun n31 =>
    K n26 n27 n28 n29 n30 n31 true w_25)

def N_driver_Driver_Over : Ann := (.mk none [] [] .done .nil (.mk none [] [] .done (.mk none [] [] .done (.mk (some [.tmp 12 (.leaf (.bool))]) [] [0, 2] .done .nil .nil) .nil) .nil))

theorem is_driver_Driver_Over (d1 : PA) (K : Int → Int → Int → Int → Int → Int → Bool → World → Prop) (w : World) : WF Tryz.prog CS Tryz.f7 N_driver_Driver_Over (.tup [.agg [.int .i64, .int .i64, .int .i64, .int .i64, .int .i64, .int .i64], .leaf (.bool)]) [.leaf (.ptr d1)] K w = S_driver_Driver_Over d1 K w := by kernel_rfl
theorem go_driver_Driver_Over (d1 : PA) (K : Int → Int → Int → Int → Int → Int → Bool → World → Prop) (w : World) (h : S_driver_Driver_Over d1 K w) : callK Tryz.prog 7 [.leaf (.ptr d1)] w (.tup [.agg [.int .i64, .int .i64, .int .i64, .int .i64, .int .i64, .int .i64], .leaf (.bool)]) K := by
  refine WF_sound (n := N_driver_Driver_Over) CS_ok mixed Tryz.func7 ?_
  rw [is_driver_Driver_Over]
  exact h

-- 8 winnow/driver.Run
def S_driver_Run (s1 : PA) (out2 : List UInt8) (j_0_3 : Int) (j_1_4 : Int) (j_2_5 : Sl) (j_3_6 : Bool) (j_4_7 : Int) (j_5_8 : Int) (j_6_9 : Int) (j_7_10 : Int) (j_8_11 : Int) (j_9_12 : Int) (splits13 : Sl) (faults14 : Sl) (picks15 : Sl) (K : Int → Int → Int → Int → Int → Int → Int → World → Prop) (w : World) : Prop :=
  al w 30 [.int .i64 j_0_3, .int .i64 j_1_4, .sl j_2_5, .bool j_3_6, .int .i64 j_4_7, .int .i64 j_5_8, .int .i64 j_6_9, .int .i64 j_7_10, .int .i64 j_8_11, .int .i64 j_9_12] fun b16 w_17 =>
  al w_17 42 [.int .i64 0, .int .i64 0, .int .i64 0, .int .i64 0, .int .i64 0, .int .i64 0] fun b18 w_19 =>
  ld w_19 (.int .i64) b16 0 fun n20 =>
  ld w_19 (.int .i64) b16 1 fun n21 =>
  ld w_19 .sl b16 2 fun a22 =>
  ld w_19 .bool b16 3 fun c23 =>
  ld w_19 (.int .i64) b16 4 fun n24 =>
  ld w_19 (.int .i64) b16 5 fun n25 =>
  ld w_19 (.int .i64) b16 6 fun n26 =>
  ld w_19 (.int .i64) b16 7 fun n27 =>
  ld w_19 (.int .i64) b16 8 fun n28 =>
  ld w_19 (.int .i64) b16 9 fun n29 =>
  callK Tryz.prog 4 [.leaf (.ptr s1), .leaf (.str out2), .agg [.int .i64 n20, .int .i64 n21, .sl a22, .bool c23, .int .i64 n24, .int .i64 n25, .int .i64 n26, .int .i64 n27, .int .i64 n28, .int .i64 n29], .leaf (.sl splits13), .leaf (.sl faults14)] w_19 (.tup [.leaf (.ptr), .leaf (.int .i64)]) fun p30 n31 w_32 =>
  ifK (n31 != 0)
  (st w_32 b18 0 [.int .i64 0, .int .i64 0, .int .i64 0, .int .i64 0, .int .i64 0, .int .i64 0] fun w_33 =>
    ld w_33 (.int .i64) b18 0 fun n34 =>
    ld w_33 (.int .i64) b18 1 fun n35 =>
    ld w_33 (.int .i64) b18 2 fun n36 =>
    ld w_33 (.int .i64) b18 3 fun n37 =>
    ld w_33 (.int .i64) b18 4 fun n38 =>
    ld w_33 (.int .i64) b18 5 fun n39 =>
    K n34 n35 n36 n37 n38 n39 n31 w_33)
  (joinK [] (fun k40 =>
      loopL [.sl] (fun picks42 w_43 again41 =>
        dr p30 fun b44 o45 =>
        ld w_43 .bool b44 (o45 + 28) fun c46 =>
        ifK (!c46)
        (joinK [.sl, .int .i64] (fun k47 =>
            ifK (decide (0 < (picks42.len : Int)))
            (drawK w_43 fun D w_48 =>
              ix picks42 1 0 fun b49 o50 =>
              ldD D w_48 (.int .i64) b49 o50 fun n51 =>
              slx picks42 1 (some 1) none none fun s52 =>
              k47 s52 n51 w_48)
            (k47 picks42 0 w_43)) fun picks53 pick54 w_55 =>
          callK Tryz.prog 5 [.leaf (.ptr p30), .leaf (.int .i64 pick54)] w_55 (.tup [.agg [.int .i64, .int .i64, .int .i64, .bool, .int .i64, .int .i64, .int .i64, .int .i64, .bool], .leaf (.int .i64)]) fun n56 n57 n58 c59 n60 n61 n62 n63 c64 n65 w_66 =>
          again41 picks53 w_66)
        (k40 w_43)) [.sl picks15] w_32) fun w_67 =>
    dr p30 fun b68 o69 =>
    ld w_67 (.int .i64) b68 (o69 + 22) fun n70 =>
    ld w_67 (.int .i64) b68 (o69 + 22 + 1) fun n71 =>
    ld w_67 (.int .i64) b68 (o69 + 22 + 2) fun n72 =>
    ld w_67 (.int .i64) b68 (o69 + 22 + 3) fun n73 =>
    ld w_67 (.int .i64) b68 (o69 + 22 + 4) fun n74 =>
    ld w_67 (.int .i64) b68 (o69 + 22 + 5) fun n75 =>
    st w_67 b18 0 [.int .i64 n70, .int .i64 n71, .int .i64 n72, .int .i64 n73, .int .i64 n74, .int .i64 n75] fun w_76 =>
    ld w_76 (.int .i64) b18 0 fun n77 =>
    ld w_76 (.int .i64) b18 1 fun n78 =>
    ld w_76 (.int .i64) b18 2 fun n79 =>
    ld w_76 (.int .i64) b18 3 fun n80 =>
    ld w_76 (.int .i64) b18 4 fun n81 =>
    ld w_76 (.int .i64) b18 5 fun n82 =>
    K n77 n78 n79 n80 n81 n82 0 w_76)

def N_driver_Run : Ann := (.mk none [] [] .done .nil (.mk none [] [] .done .nil (.mk none [] [] .done .nil (.mk none [] [] .done (.mk (some []) [] [12, 14] .done (.mk none [.tmp 5 (.leaf (.sl))] [12, 14] .done (.mk none [] [] .done .nil (.mk none [] [] .done (.mk none [] [] .done .nil (.mk none [] [] .done (.mk none [] [] .done .nil (.mk (some [.tmp 5 (.leaf (.sl)), .tmp 16 (.leaf (.int .i64))]) [] [12, 14] .done (.mk none [] [] (.take 0 (.take 1 (.take 2 (.take 3 (.take 4 (.take 5 (.take 6 .done))))))) .nil .nil) .nil)) .nil)) .nil)) .nil) .nil) .nil))))

theorem is_driver_Run (s1 : PA) (out2 : List UInt8) (j_0_3 : Int) (j_1_4 : Int) (j_2_5 : Sl) (j_3_6 : Bool) (j_4_7 : Int) (j_5_8 : Int) (j_6_9 : Int) (j_7_10 : Int) (j_8_11 : Int) (j_9_12 : Int) (splits13 : Sl) (faults14 : Sl) (picks15 : Sl) (K : Int → Int → Int → Int → Int → Int → Int → World → Prop) (w : World) : WF Tryz.prog CS Tryz.f8 N_driver_Run (.tup [.agg [.int .i64, .int .i64, .int .i64, .int .i64, .int .i64, .int .i64], .leaf (.int .i64)]) [.leaf (.ptr s1), .leaf (.str out2), .agg [.int .i64 j_0_3, .int .i64 j_1_4, .sl j_2_5, .bool j_3_6, .int .i64 j_4_7, .int .i64 j_5_8, .int .i64 j_6_9, .int .i64 j_7_10, .int .i64 j_8_11, .int .i64 j_9_12], .leaf (.sl splits13), .leaf (.sl faults14), .leaf (.sl picks15)] K w = S_driver_Run s1 out2 j_0_3 j_1_4 j_2_5 j_3_6 j_4_7 j_5_8 j_6_9 j_7_10 j_8_11 j_9_12 splits13 faults14 picks15 K w := by kernel_rfl
theorem go_driver_Run (s1 : PA) (out2 : List UInt8) (j_0_3 : Int) (j_1_4 : Int) (j_2_5 : Sl) (j_3_6 : Bool) (j_4_7 : Int) (j_5_8 : Int) (j_6_9 : Int) (j_7_10 : Int) (j_8_11 : Int) (j_9_12 : Int) (splits13 : Sl) (faults14 : Sl) (picks15 : Sl) (K : Int → Int → Int → Int → Int → Int → Int → World → Prop) (w : World) (h : S_driver_Run s1 out2 j_0_3 j_1_4 j_2_5 j_3_6 j_4_7 j_5_8 j_6_9 j_7_10 j_8_11 j_9_12 splits13 faults14 picks15 K w) : callK Tryz.prog 8 [.leaf (.ptr s1), .leaf (.str out2), .agg [.int .i64 j_0_3, .int .i64 j_1_4, .sl j_2_5, .bool j_3_6, .int .i64 j_4_7, .int .i64 j_5_8, .int .i64 j_6_9, .int .i64 j_7_10, .int .i64 j_8_11, .int .i64 j_9_12], .leaf (.sl splits13), .leaf (.sl faults14), .leaf (.sl picks15)] w (.tup [.agg [.int .i64, .int .i64, .int .i64, .int .i64, .int .i64, .int .i64], .leaf (.int .i64)]) K := by
  refine WF_sound (n := N_driver_Run) CS_ok mixed Tryz.func8 ?_
  rw [is_driver_Run]
  exact h

-- 9 winnow/winnowlaw21.sameBook
def S_winnowlaw21_sameBook (a_0_1 : Int) (a_1_2 : Sl) (a_2_3 : Sl) (a_3_4 : Bool) (b_0_5 : Int) (b_1_6 : Sl) (b_2_7 : Sl) (b_3_8 : Bool) (K : Bool → World → Prop) (w : World) : Prop :=
  al w 39 [.int .i64 a_0_1, .sl a_1_2, .sl a_2_3, .bool a_3_4] fun b9 w_10 =>
  al w_10 39 [.int .i64 b_0_5, .sl b_1_6, .sl b_2_7, .bool b_3_8] fun b11 w_12 =>
  joinK [.bool] (fun k13 =>
    ld w_12 (.int .i64) b9 0 fun n14 =>
    ld w_12 (.int .i64) b11 0 fun n15 =>
    ifK (n14 != n15)
    (k13 true w_12)
    (ld w_12 .bool b9 3 fun c16 =>
      ld w_12 .bool b11 3 fun c17 =>
      opF Tryz.prog (vS (do eqGuard .neq 4 (.tmp 14) (.tmp 16) (LV.toV (.bool c16)) (LV.toV (.bool c17)); binOp .neq 4 (LV.toV (.bool c16)) (LV.toV (.bool c17)))) w_12 (.one (.leaf (.bool))) fun c19 w_18 =>
      ifK c19
      (k13 true w_18)
      (ld w_18 .sl b9 1 fun a20 =>
        ld w_18 .sl b11 1 fun a21 =>
        ifK ((a20.len : Int) != (a21.len : Int))
        (k13 true w_18)
        (ld w_18 .sl b9 2 fun a22 =>
          ld w_18 .sl b11 2 fun a23 =>
          k13 ((a22.len : Int) != (a23.len : Int)) w_18)))) fun t3624 w_25 =>
  ifK t3624
  (K false w_25)
  (joinK [] (fun k26 =>
      loopL [.int .i64] (fun i28 w_29 again27 =>
        ld w_29 .sl b9 1 fun a30 =>
        ifK (decide (i28 < (a30.len : Int)))
        (drawK w_29 fun D w_31 =>
          ldD D w_31 .sl b9 1 fun a32 =>
          ix a32 3 i28 fun b33 o34 =>
          ldD D w_31 (.int .i64) b33 o34 fun n35 =>
          ldD D w_31 (.int .i64) b33 (o34 + 1) fun n36 =>
          ldD D w_31 (.int .i64) b33 (o34 + 2) fun n37 =>
          ldD D w_31 .sl b11 1 fun a38 =>
          ix a38 3 i28 fun b39 o40 =>
          ldD D w_31 (.int .i64) b39 o40 fun n41 =>
          ldD D w_31 (.int .i64) b39 (o40 + 1) fun n42 =>
          ldD D w_31 (.int .i64) b39 (o40 + 2) fun n43 =>
          opF Tryz.prog (vS (do eqGuard .neq 81 (.tmp 48) (.tmp 53) (.agg #[(LV.toV (.int .i64 n35)), (LV.toV (.int .i64 n36)), (LV.toV (.int .i64 n37))]) (.agg #[(LV.toV (.int .i64 n41)), (LV.toV (.int .i64 n42)), (LV.toV (.int .i64 n43))]); binOp .neq 81 (.agg #[(LV.toV (.int .i64 n35)), (LV.toV (.int .i64 n36)), (LV.toV (.int .i64 n37))]) (.agg #[(LV.toV (.int .i64 n41)), (LV.toV (.int .i64 n42)), (LV.toV (.int .i64 n43))]))) w_31 (.one (.leaf (.bool))) fun c45 w_44 =>
          Mod D w_31 w_44 ∧
          ifK c45
          (K false w_44)
          (again27 (w64 (i28 + 1)) w_44))
        (k26 w_29)) [.int .i64 0] w_25) fun w_46 =>
    joinK [] (fun k47 =>
      loopL [.int .i64] (fun i49 w_50 again48 =>
        ld w_50 .sl b9 2 fun a51 =>
        ifK (decide (i49 < (a51.len : Int)))
        (drawK w_50 fun D w_52 =>
          ldD D w_52 .sl b9 2 fun a53 =>
          ix a53 3 i49 fun b54 o55 =>
          ldD D w_52 (.int .i64) b54 o55 fun n56 =>
          ldD D w_52 (.int .i64) b54 (o55 + 1) fun n57 =>
          ldD D w_52 (.int .i64) b54 (o55 + 2) fun n58 =>
          ldD D w_52 .sl b11 2 fun a59 =>
          ix a59 3 i49 fun b60 o61 =>
          ldD D w_52 (.int .i64) b60 o61 fun n62 =>
          ldD D w_52 (.int .i64) b60 (o61 + 1) fun n63 =>
          ldD D w_52 (.int .i64) b60 (o61 + 2) fun n64 =>
          opF Tryz.prog (vS (do eqGuard .neq 81 (.tmp 66) (.tmp 71) (.agg #[(LV.toV (.int .i64 n56)), (LV.toV (.int .i64 n57)), (LV.toV (.int .i64 n58))]) (.agg #[(LV.toV (.int .i64 n62)), (LV.toV (.int .i64 n63)), (LV.toV (.int .i64 n64))]); binOp .neq 81 (.agg #[(LV.toV (.int .i64 n56)), (LV.toV (.int .i64 n57)), (LV.toV (.int .i64 n58))]) (.agg #[(LV.toV (.int .i64 n62)), (LV.toV (.int .i64 n63)), (LV.toV (.int .i64 n64))]))) w_52 (.one (.leaf (.bool))) fun c66 w_65 =>
          Mod D w_52 w_65 ∧
          ifK c66
          (K false w_65)
          (again48 (w64 (i49 + 1)) w_65))
        (k47 w_50)) [.int .i64 0] w_46) fun w_67 =>
    K true w_67)

def N_winnowlaw21_sameBook : Ann := (.mk none [] [] .done .nil (.mk none [] [] .done (.mk none [] [] .done (.mk (some [.tmp 36 (.leaf (.bool))]) [] [2, 3] .done .nil .nil) .nil) (.mk none [] [] .done (.mk none [] [] .done .nil (.mk (some []) [] [2, 3] .done (.mk none [.tmp 5 (.leaf (.int .i64))] [2, 3] .done (.mk none [] [] .done .nil (.mk none [] [] .done (.mk none [] [] .done (.mk none [] [] .done (.mk none [] [] (.take 0 (.take 1 (.take 2 (.take 3 (.take 4 (.take 5 (.take 6 (.take 7 (.take 8 (.take 9 (.eff 10 .done))))))))))) .nil .nil) .nil) .nil) .nil)) .nil) .nil)) (.mk none [] [] .done (.mk none [] [] .done .nil (.mk (some []) [] [] .done (.mk none [.tmp 6 (.leaf (.int .i64))] [2, 3] .done (.mk none [] [] .done .nil (.mk none [] [] .done (.mk none [] [] .done (.mk none [] [] .done (.mk none [] [] (.take 0 (.take 1 (.take 2 (.take 3 (.take 4 (.take 5 (.take 6 (.take 7 (.take 8 (.take 9 (.eff 10 .done))))))))))) .nil .nil) .nil) .nil) .nil)) .nil) .nil)) .nil))))

theorem is_winnowlaw21_sameBook (a_0_1 : Int) (a_1_2 : Sl) (a_2_3 : Sl) (a_3_4 : Bool) (b_0_5 : Int) (b_1_6 : Sl) (b_2_7 : Sl) (b_3_8 : Bool) (K : Bool → World → Prop) (w : World) : WF Tryz.prog CS Tryz.f9 N_winnowlaw21_sameBook (.one (.leaf (.bool))) [.agg [.int .i64 a_0_1, .sl a_1_2, .sl a_2_3, .bool a_3_4], .agg [.int .i64 b_0_5, .sl b_1_6, .sl b_2_7, .bool b_3_8]] K w = S_winnowlaw21_sameBook a_0_1 a_1_2 a_2_3 a_3_4 b_0_5 b_1_6 b_2_7 b_3_8 K w := by kernel_rfl
theorem go_winnowlaw21_sameBook (a_0_1 : Int) (a_1_2 : Sl) (a_2_3 : Sl) (a_3_4 : Bool) (b_0_5 : Int) (b_1_6 : Sl) (b_2_7 : Sl) (b_3_8 : Bool) (K : Bool → World → Prop) (w : World) (h : S_winnowlaw21_sameBook a_0_1 a_1_2 a_2_3 a_3_4 b_0_5 b_1_6 b_2_7 b_3_8 K w) : callK Tryz.prog 9 [.agg [.int .i64 a_0_1, .sl a_1_2, .sl a_2_3, .bool a_3_4], .agg [.int .i64 b_0_5, .sl b_1_6, .sl b_2_7, .bool b_3_8]] w (.one (.leaf (.bool))) K := by
  refine WF_sound (n := N_winnowlaw21_sameBook) CS_ok mixed Tryz.func9 ?_
  rw [is_winnowlaw21_sameBook]
  exact h


end Go.Proofs.YtjefbjfifjjpmafGreatDoor
