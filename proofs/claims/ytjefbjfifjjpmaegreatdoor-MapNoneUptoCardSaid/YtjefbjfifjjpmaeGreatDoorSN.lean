/- Readings: MapNone. -/
import Derived.Test.YtjefbjfifjjpmaeGreatDoorS0
namespace Go.Proofs.YtjefbjfifjjpmaeGreatDoor
open Go.Vw
-- 3 winnow/winnowlaw17.MapNone
def S_winnowlaw17_MapNone (t_0_1 : List UInt8) (t_1_2 : Int) (t_2_3 : Int) (t_3_4 : Sl) (t_4_5 : Bool) (t_5_6 : Int) (t_6_7 : Int) (t_7_8 : Int) (t_8_9 : Int) (t_9_10 : Int) (t_10_11 : Int) (t_11_12 : Int) (t_12_13 : Int) (t_13_14 : Int) (t_14_15 : List UInt8) (t_15_16 : Int) (t_16_17 : Bool) (K : Bool → World → Prop) (w : World) : Prop :=
  al w 30 [.str t_0_1, .int .i64 t_1_2, .int .i64 t_2_3, .sl t_3_4, .bool t_4_5, .int .i64 t_5_6, .int .i64 t_6_7, .int .i64 t_7_8, .int .i64 t_8_9, .int .i64 t_9_10, .int .i64 t_10_11, .int .i64 t_11_12, .int .i64 t_12_13, .int .i64 t_13_14, .str t_14_15, .int .i64 t_15_16, .bool t_16_17] fun b18 w_19 =>
  ld w_19 .str b18 0 fun s20 =>
  ld w_19 (.int .i64) b18 1 fun n21 =>
  ld w_19 (.int .i64) b18 2 fun n22 =>
  ld w_19 .sl b18 3 fun a23 =>
  ld w_19 .bool b18 4 fun c24 =>
  ld w_19 (.int .i64) b18 5 fun n25 =>
  ld w_19 (.int .i64) b18 6 fun n26 =>
  ld w_19 (.int .i64) b18 7 fun n27 =>
  ld w_19 (.int .i64) b18 8 fun n28 =>
  ld w_19 (.int .i64) b18 9 fun n29 =>
  ld w_19 (.int .i64) b18 10 fun n30 =>
  ld w_19 (.int .i64) b18 11 fun n31 =>
  ld w_19 (.int .i64) b18 12 fun n32 =>
  ld w_19 (.int .i64) b18 13 fun n33 =>
  ld w_19 .str b18 14 fun s34 =>
  ld w_19 (.int .i64) b18 15 fun n35 =>
  ld w_19 .bool b18 16 fun c36 =>
  callK Tryz.prog 4 [.leaf (.ptr none), .leaf (.str s20), .agg [.int .i64 n21, .int .i64 n22, .sl a23, .bool c24, .int .i64 n25, .int .i64 n26, .int .i64 n27, .int .i64 n28, .int .i64 n29, .int .i64 n30], .leaf (.int .i64 n31), .leaf (.int .i64 n32), .agg [.int .i64 n33, .str s34], .leaf (.int .i64 n35), .leaf (.bool c36)] w_19 (.tup [.agg [.int .i64, .int .i64, .str, .int .i64, .int .i64, .int .i64], .leaf (.int .i64)]) fun n37 n38 s39 n40 n41 n42 n43 w_44 =>
  al w_44 32 [.int .i64 0, .int .i64 0, .str [], .int .i64 0, .int .i64 0, .int .i64 0] fun b45 w_46 =>
  st w_46 b45 0 [.int .i64 n37, .int .i64 n38, .str s39, .int .i64 n40, .int .i64 n41, .int .i64 n42] fun w_47 =>
  joinK [.bool] (fun k48 =>
    drawK w_47 fun D w_49 =>
    ldD D w_49 (.int .i64) b45 0 fun n50 =>
    ldD D w_49 (.int .i64) b45 1 fun n51 =>
    ldD D w_49 .str b45 2 fun s52 =>
    ldD D w_49 (.int .i64) b45 3 fun n53 =>
    ldD D w_49 (.int .i64) b45 4 fun n54 =>
    ldD D w_49 (.int .i64) b45 5 fun n55 =>
    opF Tryz.prog (vS (do eqGuard .eql 32 (.tmp 23) (.tmp 24) (.agg #[(LV.toV (.int .i64 n50)), (LV.toV (.int .i64 n51)), (LV.toV (.str s52)), (LV.toV (.int .i64 n53)), (LV.toV (.int .i64 n54)), (LV.toV (.int .i64 n55))]) (.agg #[(LV.toV (.int .i64 0)), (LV.toV (.int .i64 0)), (LV.toV (.str [])), (LV.toV (.int .i64 0)), (LV.toV (.int .i64 0)), (LV.toV (.int .i64 0))]); binOp .eql 32 (.agg #[(LV.toV (.int .i64 n50)), (LV.toV (.int .i64 n51)), (LV.toV (.str s52)), (LV.toV (.int .i64 n53)), (LV.toV (.int .i64 n54)), (LV.toV (.int .i64 n55))]) (.agg #[(LV.toV (.int .i64 0)), (LV.toV (.int .i64 0)), (LV.toV (.str [])), (LV.toV (.int .i64 0)), (LV.toV (.int .i64 0)), (LV.toV (.int .i64 0))]))) w_49 (.one (.leaf (.bool))) fun c57 w_56 =>
    Mod D w_49 w_56 ∧
    ifK c57
    (ifK (n43 == 1)
      (ldD D w_49 .str b18 0 fun s58 =>
        ldD D w_49 (.int .i64) b18 11 fun n59 =>
        ldD D w_49 (.int .i64) b18 12 fun n60 =>
        ldD D w_49 .str b18 0 fun s61 =>
        ldD D w_49 (.int .i64) b18 11 fun n62 =>
        ldD D w_49 (.int .i64) b18 12 fun n63 =>
        callK Tryz.prog 5 [.leaf (.str s58), .leaf (.int .i64 n59), .leaf (.int .i64 n60)] w_56 (.one (.leaf (.str))) fun s64 w_65 =>
        Mod D w_49 w_65 ∧
        callK Tryz.prog 6 [.leaf (.str s61), .leaf (.int .i64 n62), .leaf (.int .i64 n63)] w_65 (.one (.leaf (.str))) fun s66 w_67 =>
        Mod D w_49 w_67 ∧
        k48 (s64 == s66) w_67)
      (k48 false w_56))
    (k48 false w_56)) fun t268 w_69 =>
  K t268 w_69

def N_winnowlaw17_MapNone : Ann := (.mk none [] [] .done .nil (.mk none [] [] .done .nil (.mk none [] [] .done (.mk (some [.tmp 2 (.leaf (.bool))]) [] [] (.take 0 (.take 1 (.eff 2 (.take 3 (.split 3 (.take 4 (.take 5 (.take 6 (.take 7 (.split 7 (.take 8 (.take 9 (.take 10 (.take 11 (.take 12 (.take 13 (.take 15 (.take 16 (.take 17 (.take 18 (.take 19 (.take 20 (.eff 14 (.eff 21 (.take 22 (.take 23 (.take 24 .done))))))))))))))))) (.take 8 (.take 9 (.take 10 (.take 11 (.take 12 (.take 13 (.take 14 (.take 15 (.take 16 (.take 17 (.take 18 (.take 19 (.take 20 (.take 21 (.take 22 (.take 23 (.take 24 .done)))))))))))))))))))))) (.take 4 (.take 5 (.take 6 (.take 7 (.take 8 (.take 9 (.take 10 (.take 11 (.take 12 (.take 13 (.take 14 (.take 15 (.take 16 (.take 17 (.take 18 (.take 19 (.take 20 (.take 21 (.take 22 (.take 23 (.take 24 .done)))))))))))))))))))))))))) .nil .nil) .nil)))

theorem is_winnowlaw17_MapNone (t_0_1 : List UInt8) (t_1_2 : Int) (t_2_3 : Int) (t_3_4 : Sl) (t_4_5 : Bool) (t_5_6 : Int) (t_6_7 : Int) (t_7_8 : Int) (t_8_9 : Int) (t_9_10 : Int) (t_10_11 : Int) (t_11_12 : Int) (t_12_13 : Int) (t_13_14 : Int) (t_14_15 : List UInt8) (t_15_16 : Int) (t_16_17 : Bool) (K : Bool → World → Prop) (w : World) : WF Tryz.prog CS Tryz.f3 N_winnowlaw17_MapNone (.one (.leaf (.bool))) [.agg [.str t_0_1, .int .i64 t_1_2, .int .i64 t_2_3, .sl t_3_4, .bool t_4_5, .int .i64 t_5_6, .int .i64 t_6_7, .int .i64 t_7_8, .int .i64 t_8_9, .int .i64 t_9_10, .int .i64 t_10_11, .int .i64 t_11_12, .int .i64 t_12_13, .int .i64 t_13_14, .str t_14_15, .int .i64 t_15_16, .bool t_16_17]] K w = S_winnowlaw17_MapNone t_0_1 t_1_2 t_2_3 t_3_4 t_4_5 t_5_6 t_6_7 t_7_8 t_8_9 t_9_10 t_10_11 t_11_12 t_12_13 t_13_14 t_14_15 t_15_16 t_16_17 K w := by kernel_rfl
theorem go_winnowlaw17_MapNone (t_0_1 : List UInt8) (t_1_2 : Int) (t_2_3 : Int) (t_3_4 : Sl) (t_4_5 : Bool) (t_5_6 : Int) (t_6_7 : Int) (t_7_8 : Int) (t_8_9 : Int) (t_9_10 : Int) (t_10_11 : Int) (t_11_12 : Int) (t_12_13 : Int) (t_13_14 : Int) (t_14_15 : List UInt8) (t_15_16 : Int) (t_16_17 : Bool) (K : Bool → World → Prop) (w : World) (h : S_winnowlaw17_MapNone t_0_1 t_1_2 t_2_3 t_3_4 t_4_5 t_5_6 t_6_7 t_7_8 t_8_9 t_9_10 t_10_11 t_11_12 t_12_13 t_13_14 t_14_15 t_15_16 t_16_17 K w) : callK Tryz.prog 3 [.agg [.str t_0_1, .int .i64 t_1_2, .int .i64 t_2_3, .sl t_3_4, .bool t_4_5, .int .i64 t_5_6, .int .i64 t_6_7, .int .i64 t_7_8, .int .i64 t_8_9, .int .i64 t_9_10, .int .i64 t_10_11, .int .i64 t_11_12, .int .i64 t_12_13, .int .i64 t_13_14, .str t_14_15, .int .i64 t_15_16, .bool t_16_17]] w (.one (.leaf (.bool))) K := by
  refine WF_sound (n := N_winnowlaw17_MapNone) CS_ok mixed Tryz.func3 ?_
  rw [is_winnowlaw17_MapNone]
  exact h

-- 4 winnow/maptask.Run
def S_maptask_Run (s1 : PA) (out2 : List UInt8) (j_0_3 : Int) (j_1_4 : Int) (j_2_5 : Sl) (j_3_6 : Bool) (j_4_7 : Int) (j_5_8 : Int) (j_6_9 : Int) (j_7_10 : Int) (j_8_11 : Int) (j_9_12 : Int) (task13 : Int) (try14 : Int) (split_0_15 : Int) (split_1_16 : List UInt8) (at_17 : Int) (stops18 : Bool) (K : Int → Int → List UInt8 → Int → Int → Int → Int → World → Prop) (w : World) : Prop :=
  al w 38 [.ptr s1] fun b19 w_20 =>
  al w_20 26 [.int .i64 j_0_3, .int .i64 j_1_4, .sl j_2_5, .bool j_3_6, .int .i64 j_4_7, .int .i64 j_5_8, .int .i64 j_6_9, .int .i64 j_7_10, .int .i64 j_8_11, .int .i64 j_9_12] fun b21 w_22 =>
  al w_22 28 [.int .i64 split_0_15, .str split_1_16] fun b23 w_24 =>
  al w_24 2 [.int .i64 at_17] fun b25 w_26 =>
  al w_26 4 [.bool stops18] fun b27 w_28 =>
  al w_28 32 [.int .i64 0, .int .i64 0, .str [], .int .i64 0, .int .i64 0, .int .i64 0] fun b29 w_30 =>
  al w_30 33 [.int .i64 0] fun b31 w_32 =>
  ld w_32 .ptr b19 0 fun p33 =>
  ld w_32 (.int .i64) b21 0 fun n34 =>
  ld w_32 (.int .i64) b21 1 fun n35 =>
  ld w_32 .sl b21 2 fun a36 =>
  ld w_32 .bool b21 3 fun c37 =>
  ld w_32 (.int .i64) b21 4 fun n38 =>
  ld w_32 (.int .i64) b21 5 fun n39 =>
  ld w_32 (.int .i64) b21 6 fun n40 =>
  ld w_32 (.int .i64) b21 7 fun n41 =>
  ld w_32 (.int .i64) b21 8 fun n42 =>
  ld w_32 (.int .i64) b21 9 fun n43 =>
  ld w_32 (.int .i64) b23 0 fun n44 =>
  ld w_32 .str b23 1 fun s45 =>
  callK Tryz.prog 7 [.leaf (.ptr p33), .agg [.int .i64 n34, .int .i64 n35, .sl a36, .bool c37, .int .i64 n38, .int .i64 n39, .int .i64 n40, .int .i64 n41, .int .i64 n42, .int .i64 n43], .leaf (.int .i64 task13), .leaf (.int .i64 try14), .agg [.int .i64 n44, .str s45]] w_32 (.one (.leaf (.int .i64))) fun n46 w_47 =>
  ifK (n46 != 0)
  (st w_47 b29 0 [.int .i64 0, .int .i64 0, .str [], .int .i64 0, .int .i64 0, .int .i64 0] fun w_48 =>
    st w_48 b31 0 [.int .i64 n46] fun w_49 =>
    ld w_49 (.int .i64) b29 0 fun n50 =>
    ld w_49 (.int .i64) b29 1 fun n51 =>
    ld w_49 .str b29 2 fun s52 =>
    ld w_49 (.int .i64) b29 3 fun n53 =>
    ld w_49 (.int .i64) b29 4 fun n54 =>
    ld w_49 (.int .i64) b29 5 fun n55 =>
    ld w_49 (.int .i64) b31 0 fun n56 =>
    K n50 n51 s52 n53 n54 n55 n56 w_49)
  (joinK [.adr] (fun k57 =>
      drawK w_47 fun D w_58 =>
      ldD D w_58 (.int .i64) b21 0 fun n59 =>
      ldD D w_58 (.int .i64) b21 1 fun n60 =>
      ldD D w_58 .sl b21 2 fun a61 =>
      ldD D w_58 .bool b21 3 fun c62 =>
      ldD D w_58 (.int .i64) b21 4 fun n63 =>
      ldD D w_58 (.int .i64) b21 5 fun n64 =>
      ldD D w_58 (.int .i64) b21 6 fun n65 =>
      ldD D w_58 (.int .i64) b21 7 fun n66 =>
      ldD D w_58 (.int .i64) b21 8 fun n67 =>
      ldD D w_58 (.int .i64) b21 9 fun n68 =>
      (callK Tryz.prog 5 [.leaf (.str out2), .leaf (.int .i64 task13), .leaf (.int .i64 try14)] w_58 (.one (.leaf (.str))) fun s69 w_70 =>
        Mod D w_58 w_70 ∧
        (al w_70 45 [.int .i64 n59, .int .i64 n60, .sl a61, .bool c62, .int .i64 n63, .int .i64 n64, .int .i64 n65, .int .i64 n66, .int .i64 n67, .int .i64 n68, .str s69, .ptr none, .ptr none, .ptr none, .int .i64 0, .int .i64 0, .int .i64 0] fun b71 w_72 =>
          Mod D w_58 w_72 ∧
          al w_72 40 [.ptr none] fun b73 w_74 =>
          Mod D w_58 w_74 ∧
          st w_74 b73 0 [.ptr (some (b71, 0))] fun w_75 =>
          k57 (b73, 0) w_75) ∧
        (al w_70 40 [.ptr none] fun b76 w_77 =>
          Mod D w_58 w_77 ∧
          al w_77 45 [.int .i64 n59, .int .i64 n60, .sl a61, .bool c62, .int .i64 n63, .int .i64 n64, .int .i64 n65, .int .i64 n66, .int .i64 n67, .int .i64 n68, .str s69, .ptr none, .ptr none, .ptr none, .int .i64 0, .int .i64 0, .int .i64 0] fun b78 w_79 =>
          Mod D w_58 w_79 ∧
          st w_79 b76 0 [.ptr (some (b78, 0))] fun w_80 =>
          k57 (b76, 0) w_80)) ∧
      (al w_58 40 [.ptr none] fun b81 w_82 =>
        Mod D w_58 w_82 ∧
        callK Tryz.prog 5 [.leaf (.str out2), .leaf (.int .i64 task13), .leaf (.int .i64 try14)] w_82 (.one (.leaf (.str))) fun s83 w_84 =>
        Mod D w_58 w_84 ∧
        al w_84 45 [.int .i64 n59, .int .i64 n60, .sl a61, .bool c62, .int .i64 n63, .int .i64 n64, .int .i64 n65, .int .i64 n66, .int .i64 n67, .int .i64 n68, .str s83, .ptr none, .ptr none, .ptr none, .int .i64 0, .int .i64 0, .int .i64 0] fun b85 w_86 =>
        Mod D w_58 w_86 ∧
        st w_86 b81 0 [.ptr (some (b85, 0))] fun w_87 =>
        k57 (b81, 0) w_87)) fun a88 w_89 =>
    drawK w_89 fun D w_90 =>
    ldD D w_90 .ptr a88.1 a88.2 fun p91 =>
    ldD D w_90 .ptr b19 0 fun p92 =>
    ldD D w_90 .ptr a88.1 a88.2 fun p93 =>
    dr p93 fun b94 o95 =>
    ldD D w_90 .str b94 (o95 + 10) fun s96 =>
    ldD D w_90 (.int .i64) b21 1 fun n97 =>
    ldD D w_90 (.int .i64) b21 4 fun n98 =>
    ldD D w_90 (.int .i64) b21 5 fun n99 =>
    ldD D w_90 (.int .i64) b21 7 fun n100 =>
    ldD D w_90 (.int .i64) b21 8 fun n101 =>
    ldD D w_90 (.int .i64) b21 9 fun n102 =>
    callK Tryz.prog 8 [.leaf (.ptr p92), .leaf (.str s96), .leaf (.int .i64 n97), .leaf (.int .i64 n98), .leaf (.int .i64 n99), .agg [.int .i64 n100, .int .i64 n101, .int .i64 n102]] w_90 (.tup [.leaf (.ptr), .leaf (.int .i64)]) fun p103 n104 w_105 =>
    Mod D w_90 w_105 ∧
    dr p91 fun b106 o107 =>
    st w_105 b106 (o107 + 11) [.ptr p103] fun w_108 =>
    Mod D w_90 w_108 ∧
    st w_108 b31 0 [.int .i64 n104] fun w_109 =>
    ld w_109 (.int .i64) b31 0 fun n110 =>
    ifK (n110 != 0)
    (drawK w_109 fun D w_111 =>
      ldD D w_111 (.int .i64) b31 0 fun n112 =>
      st w_111 b29 0 [.int .i64 0, .int .i64 0, .str [], .int .i64 0, .int .i64 0, .int .i64 0] fun w_113 =>
      Mod D w_111 w_113 ∧
      st w_113 b31 0 [.int .i64 n112] fun w_114 =>
      ld w_114 (.int .i64) b29 0 fun n115 =>
      ld w_114 (.int .i64) b29 1 fun n116 =>
      ld w_114 .str b29 2 fun s117 =>
      ld w_114 (.int .i64) b29 3 fun n118 =>
      ld w_114 (.int .i64) b29 4 fun n119 =>
      ld w_114 (.int .i64) b29 5 fun n120 =>
      ld w_114 (.int .i64) b31 0 fun n121 =>
      K n115 n116 s117 n118 n119 n120 n121 w_114)
    ((∀ x ∈ [(.func (.func 9) #[] #[(LV.toV (.ptr (some (a88.1, a88.2)))), (LV.toV (.ptr (some (b23, 0))))] : Value), (.func (.func 11) #[] #[(LV.toV (.ptr (some (a88.1, a88.2))))] : Value), (.func (.func 13) #[] #[(LV.toV (.ptr (some (b19, 0)))), (LV.toV (.ptr (some (a88.1, a88.2)))), (LV.toV (.ptr (some (b21, 0)))), (LV.toV (.ptr (some (b27, 0)))), (LV.toV (.ptr (some (b25, 0))))] : Value), (.func (.func 16) #[] #[(LV.toV (.ptr (some (b21, 0)))), (LV.toV (.ptr (some (a88.1, a88.2))))] : Value), (.func (.func 19) #[] #[(LV.toV (.ptr (some (a88.1, a88.2)))), (LV.toV (.ptr (some (b27, 0))))] : Value)], isCell x = true) ∧
      al w_109 49 [.val (.func (.func 9) #[] #[(LV.toV (.ptr (some (a88.1, a88.2)))), (LV.toV (.ptr (some (b23, 0))))]), .val (.func (.func 11) #[] #[(LV.toV (.ptr (some (a88.1, a88.2))))]), .val (.func (.func 13) #[] #[(LV.toV (.ptr (some (b19, 0)))), (LV.toV (.ptr (some (a88.1, a88.2)))), (LV.toV (.ptr (some (b21, 0)))), (LV.toV (.ptr (some (b27, 0)))), (LV.toV (.ptr (some (b25, 0))))]), .val (.func (.func 16) #[] #[(LV.toV (.ptr (some (b21, 0)))), (LV.toV (.ptr (some (a88.1, a88.2))))]), .val (.func (.func 19) #[] #[(LV.toV (.ptr (some (a88.1, a88.2)))), (LV.toV (.ptr (some (b27, 0))))])] fun b122 w_123 =>
      False))

def N_maptask_Run : Ann := (.mk none [] [] .done .nil (.mk none [] [] .done .nil (.mk none [] [] .done (.mk (some [.tmp 19 (.leaf (.adr))]) [] [3, 4, 8, 10, 13, 14, 15, 16, 17] (.take 0 (.take 1 (.take 2 (.take 3 (.two 4 (.take 5 (.two 6 (.eff 7 (.last 8)) 7 (.eff 6 (.last 8)))) 7 (.eff 4 (.take 5 (.eff 6 (.last 8))))))))) .nil .nil) (.mk none [] [] .done (.mk none [] [] .done (.mk none [] [] (.take 0 (.take 1 (.take 2 (.take 3 (.take 4 (.take 5 (.take 6 (.take 7 (.take 8 (.take 9 (.take 10 (.take 11 (.take 12 (.take 13 (.eff 14 (.take 15 (.take 16 (.take 17 (.take 18 (.take 19 (.eff 20 (.last 21)))))))))))))))))))))) .nil .nil) (.mk none [] [] .done .nil (.mk none [] [] .done (.mk none [] [] .done (.mk none [] [] (.take 0 (.take 1 (.eff 2 (.last 3)))) .nil .nil) .nil) .nil))) .nil))))

theorem is_maptask_Run (s1 : PA) (out2 : List UInt8) (j_0_3 : Int) (j_1_4 : Int) (j_2_5 : Sl) (j_3_6 : Bool) (j_4_7 : Int) (j_5_8 : Int) (j_6_9 : Int) (j_7_10 : Int) (j_8_11 : Int) (j_9_12 : Int) (task13 : Int) (try14 : Int) (split_0_15 : Int) (split_1_16 : List UInt8) (at_17 : Int) (stops18 : Bool) (K : Int → Int → List UInt8 → Int → Int → Int → Int → World → Prop) (w : World) : WF Tryz.prog CS Tryz.f4 N_maptask_Run (.tup [.agg [.int .i64, .int .i64, .str, .int .i64, .int .i64, .int .i64], .leaf (.int .i64)]) [.leaf (.ptr s1), .leaf (.str out2), .agg [.int .i64 j_0_3, .int .i64 j_1_4, .sl j_2_5, .bool j_3_6, .int .i64 j_4_7, .int .i64 j_5_8, .int .i64 j_6_9, .int .i64 j_7_10, .int .i64 j_8_11, .int .i64 j_9_12], .leaf (.int .i64 task13), .leaf (.int .i64 try14), .agg [.int .i64 split_0_15, .str split_1_16], .leaf (.int .i64 at_17), .leaf (.bool stops18)] K w = S_maptask_Run s1 out2 j_0_3 j_1_4 j_2_5 j_3_6 j_4_7 j_5_8 j_6_9 j_7_10 j_8_11 j_9_12 task13 try14 split_0_15 split_1_16 at_17 stops18 K w := by kernel_rfl
theorem go_maptask_Run (s1 : PA) (out2 : List UInt8) (j_0_3 : Int) (j_1_4 : Int) (j_2_5 : Sl) (j_3_6 : Bool) (j_4_7 : Int) (j_5_8 : Int) (j_6_9 : Int) (j_7_10 : Int) (j_8_11 : Int) (j_9_12 : Int) (task13 : Int) (try14 : Int) (split_0_15 : Int) (split_1_16 : List UInt8) (at_17 : Int) (stops18 : Bool) (K : Int → Int → List UInt8 → Int → Int → Int → Int → World → Prop) (w : World) (h : S_maptask_Run s1 out2 j_0_3 j_1_4 j_2_5 j_3_6 j_4_7 j_5_8 j_6_9 j_7_10 j_8_11 j_9_12 task13 try14 split_0_15 split_1_16 at_17 stops18 K w) : callK Tryz.prog 4 [.leaf (.ptr s1), .leaf (.str out2), .agg [.int .i64 j_0_3, .int .i64 j_1_4, .sl j_2_5, .bool j_3_6, .int .i64 j_4_7, .int .i64 j_5_8, .int .i64 j_6_9, .int .i64 j_7_10, .int .i64 j_8_11, .int .i64 j_9_12], .leaf (.int .i64 task13), .leaf (.int .i64 try14), .agg [.int .i64 split_0_15, .str split_1_16], .leaf (.int .i64 at_17), .leaf (.bool stops18)] w (.tup [.agg [.int .i64, .int .i64, .str, .int .i64, .int .i64, .int .i64], .leaf (.int .i64)]) K := by
  refine WF_sound (n := N_maptask_Run) CS_ok mixed Tryz.func4 ?_
  rw [is_maptask_Run]
  exact h

-- 5 winnow/maptask.Name
def S_maptask_Name (out1 : List UInt8) (task2 : Int) (attempt3 : Int) (K : List UInt8 → World → Prop) (w : World) : Prop :=
  joinK [.bool] (fun k4 =>
    ifK (decide (task2 < 0))
    (k4 true w)
    (k4 (decide (attempt3 < 0)) w)) fun t125 w_6 =>
  ifK t125
  (K [] w_6)
  (out1.length + [46, 109].length < 2 ^ 62 ∧
    callK Tryz.prog 23 [.leaf (.int .i64 task2)] w_6 (.one (.leaf (.str))) fun s7 w_8 =>
    (out1 ++ [46, 109]).length + s7.length < 2 ^ 62 ∧
    ((out1 ++ [46, 109]) ++ s7).length + [46].length < 2 ^ 62 ∧
    callK Tryz.prog 23 [.leaf (.int .i64 attempt3)] w_8 (.one (.leaf (.str))) fun s9 w_10 =>
    (((out1 ++ [46, 109]) ++ s7) ++ [46]).length + s9.length < 2 ^ 62 ∧
    K ((((out1 ++ [46, 109]) ++ s7) ++ [46]) ++ s9) w_10)

def N_maptask_Name : Ann := (.mk none [] [] .done .nil (.mk none [] [] .done (.mk none [] [] .done (.mk (some [.tmp 12 (.leaf (.bool))]) [] [0, 1, 2] .done .nil .nil) .nil) .nil))

theorem is_maptask_Name (out1 : List UInt8) (task2 : Int) (attempt3 : Int) (K : List UInt8 → World → Prop) (w : World) : WF Tryz.prog CS Tryz.f5 N_maptask_Name (.one (.leaf (.str))) [.leaf (.str out1), .leaf (.int .i64 task2), .leaf (.int .i64 attempt3)] K w = S_maptask_Name out1 task2 attempt3 K w := by kernel_rfl
theorem go_maptask_Name (out1 : List UInt8) (task2 : Int) (attempt3 : Int) (K : List UInt8 → World → Prop) (w : World) (h : S_maptask_Name out1 task2 attempt3 K w) : callK Tryz.prog 5 [.leaf (.str out1), .leaf (.int .i64 task2), .leaf (.int .i64 attempt3)] w (.one (.leaf (.str))) K := by
  refine WF_sound (n := N_maptask_Name) CS_ok mixed Tryz.func5 ?_
  rw [is_maptask_Name]
  exact h

-- 6 winnow/winnowref17.Name
def S_winnowref17_Name (out1 : List UInt8) (task2 : Int) (attempt3 : Int) (K : List UInt8 → World → Prop) (w : World) : Prop :=
  joinK [.bool] (fun k4 =>
    ifK (decide (task2 < 0))
    (k4 true w)
    (k4 (decide (attempt3 < 0)) w)) fun t125 w_6 =>
  ifK t125
  (K [] w_6)
  (out1.length + [46, 109].length < 2 ^ 62 ∧
    callK Tryz.prog 24 [.leaf (.int .i64 task2)] w_6 (.one (.leaf (.str))) fun s7 w_8 =>
    (out1 ++ [46, 109]).length + s7.length < 2 ^ 62 ∧
    ((out1 ++ [46, 109]) ++ s7).length + [46].length < 2 ^ 62 ∧
    callK Tryz.prog 24 [.leaf (.int .i64 attempt3)] w_8 (.one (.leaf (.str))) fun s9 w_10 =>
    (((out1 ++ [46, 109]) ++ s7) ++ [46]).length + s9.length < 2 ^ 62 ∧
    K ((((out1 ++ [46, 109]) ++ s7) ++ [46]) ++ s9) w_10)

def N_winnowref17_Name : Ann := (.mk none [] [] .done .nil (.mk none [] [] .done (.mk none [] [] .done (.mk (some [.tmp 12 (.leaf (.bool))]) [] [0, 1, 2] .done .nil .nil) .nil) .nil))

theorem is_winnowref17_Name (out1 : List UInt8) (task2 : Int) (attempt3 : Int) (K : List UInt8 → World → Prop) (w : World) : WF Tryz.prog CS Tryz.f6 N_winnowref17_Name (.one (.leaf (.str))) [.leaf (.str out1), .leaf (.int .i64 task2), .leaf (.int .i64 attempt3)] K w = S_winnowref17_Name out1 task2 attempt3 K w := by kernel_rfl
theorem go_winnowref17_Name (out1 : List UInt8) (task2 : Int) (attempt3 : Int) (K : List UInt8 → World → Prop) (w : World) (h : S_winnowref17_Name out1 task2 attempt3 K w) : callK Tryz.prog 6 [.leaf (.str out1), .leaf (.int .i64 task2), .leaf (.int .i64 attempt3)] w (.one (.leaf (.str))) K := by
  refine WF_sound (n := N_winnowref17_Name) CS_ok mixed Tryz.func6 ?_
  rw [is_winnowref17_Name]
  exact h

-- 7 winnow/maptask.refused
def S_maptask_refused (s1 : PA) (j_0_2 : Int) (j_1_3 : Int) (j_2_4 : Sl) (j_3_5 : Bool) (j_4_6 : Int) (j_5_7 : Int) (j_6_8 : Int) (j_7_9 : Int) (j_8_10 : Int) (j_9_11 : Int) (task12 : Int) (try13 : Int) (split_0_14 : Int) (split_1_15 : List UInt8) (K : Int → World → Prop) (w : World) : Prop :=
  al w 26 [.int .i64 j_0_2, .int .i64 j_1_3, .sl j_2_4, .bool j_3_5, .int .i64 j_4_6, .int .i64 j_5_7, .int .i64 j_6_8, .int .i64 j_7_9, .int .i64 j_8_10, .int .i64 j_9_11] fun b16 w_17 =>
  al w_17 28 [.int .i64 split_0_14, .str split_1_15] fun b18 w_19 =>
  ifK s1.isNone
  (K 1 w_19)
  (ld w_19 .str b18 1 fun s20 =>
    ifK (decide (65536 < (s20.length : Int)))
    (K 2 w_19)
    (joinK [.bool] (fun k21 =>
        ifK (decide (task12 < 0))
        (k21 true w_19)
        (ifK (decide (256 ≤ task12))
          (k21 true w_19)
          (k21 (decide (try13 < 0)) w_19))) fun t2022 w_23 =>
      ifK t2022
      (K 3 w_23)
      (ld w_23 (.int .i64) b16 0 fun n24 =>
        callK Tryz.prog 25 [.leaf (.int .i64 n24)] w_23 (.one (.leaf (.int .i64))) fun n25 w_26 =>
        ifK (n25 != 0)
        (K n25 w_26)
        (ld w_26 (.int .i64) b16 0 fun n27 =>
          ld w_26 (.int .i64) b16 1 fun n28 =>
          ld w_26 .sl b16 2 fun a29 =>
          ld w_26 .bool b16 3 fun c30 =>
          ld w_26 (.int .i64) b16 4 fun n31 =>
          ld w_26 (.int .i64) b16 5 fun n32 =>
          ld w_26 (.int .i64) b16 6 fun n33 =>
          ld w_26 (.int .i64) b16 7 fun n34 =>
          ld w_26 (.int .i64) b16 8 fun n35 =>
          ld w_26 (.int .i64) b16 9 fun n36 =>
          callK Tryz.prog 26 [.agg [.int .i64 n27, .int .i64 n28, .sl a29, .bool c30, .int .i64 n31, .int .i64 n32, .int .i64 n33, .int .i64 n34, .int .i64 n35, .int .i64 n36]] w_26 (.one (.leaf (.int .i64))) fun n37 w_38 =>
          K n37 w_38))))

def N_maptask_refused : Ann := (.mk none [] [] .done .nil (.mk none [] [] .done (.mk none [] [] .done (.mk none [] [] .done .nil (.mk none [] [] .done .nil (.mk none [] [] .done .nil (.mk none [] [] .done .nil (.mk none [] [] .done (.mk (some [.tmp 20 (.leaf (.bool))]) [] [6] .done .nil .nil) .nil))))) .nil) .nil))

theorem is_maptask_refused (s1 : PA) (j_0_2 : Int) (j_1_3 : Int) (j_2_4 : Sl) (j_3_5 : Bool) (j_4_6 : Int) (j_5_7 : Int) (j_6_8 : Int) (j_7_9 : Int) (j_8_10 : Int) (j_9_11 : Int) (task12 : Int) (try13 : Int) (split_0_14 : Int) (split_1_15 : List UInt8) (K : Int → World → Prop) (w : World) : WF Tryz.prog CS Tryz.f7 N_maptask_refused (.one (.leaf (.int .i64))) [.leaf (.ptr s1), .agg [.int .i64 j_0_2, .int .i64 j_1_3, .sl j_2_4, .bool j_3_5, .int .i64 j_4_6, .int .i64 j_5_7, .int .i64 j_6_8, .int .i64 j_7_9, .int .i64 j_8_10, .int .i64 j_9_11], .leaf (.int .i64 task12), .leaf (.int .i64 try13), .agg [.int .i64 split_0_14, .str split_1_15]] K w = S_maptask_refused s1 j_0_2 j_1_3 j_2_4 j_3_5 j_4_6 j_5_7 j_6_8 j_7_9 j_8_10 j_9_11 task12 try13 split_0_14 split_1_15 K w := by kernel_rfl
theorem go_maptask_refused (s1 : PA) (j_0_2 : Int) (j_1_3 : Int) (j_2_4 : Sl) (j_3_5 : Bool) (j_4_6 : Int) (j_5_7 : Int) (j_6_8 : Int) (j_7_9 : Int) (j_8_10 : Int) (j_9_11 : Int) (task12 : Int) (try13 : Int) (split_0_14 : Int) (split_1_15 : List UInt8) (K : Int → World → Prop) (w : World) (h : S_maptask_refused s1 j_0_2 j_1_3 j_2_4 j_3_5 j_4_6 j_5_7 j_6_8 j_7_9 j_8_10 j_9_11 task12 try13 split_0_14 split_1_15 K w) : callK Tryz.prog 7 [.leaf (.ptr s1), .agg [.int .i64 j_0_2, .int .i64 j_1_3, .sl j_2_4, .bool j_3_5, .int .i64 j_4_6, .int .i64 j_5_7, .int .i64 j_6_8, .int .i64 j_7_9, .int .i64 j_8_10, .int .i64 j_9_11], .leaf (.int .i64 task12), .leaf (.int .i64 try13), .agg [.int .i64 split_0_14, .str split_1_15]] w (.one (.leaf (.int .i64))) K := by
  refine WF_sound (n := N_maptask_refused) CS_ok mixed Tryz.func7 ?_
  rw [is_maptask_refused]
  exact h

-- 24 winnow/winnowref15.Decimal
def S_winnowref15_Decimal (v1 : Int) (K : List UInt8 → World → Prop) (w : World) : Prop :=
  ifK (v1 == 0)
  (K [48] w)
  (joinK [.str] (fun k2 =>
      loopL [.int .i64, .str] (fun v4 s5 w_6 again3 =>
        ifK (v4 != 0)
        (joinK [.int .i64] (fun k7 =>
            ifK (decide (v4.tmod 10 < 0))
            (k7 (w64 (0 - (v4.tmod 10))) w_6)
            (k7 (v4.tmod 10) w_6)) fun d8 w_9 =>
          opF Tryz.prog (vS (convert 21 9 (LV.toV (.int .i32 (IntKind.wrap .i32 (w64 (48 + d8))))))) w_9 (.one (.leaf (.str))) fun s11 w_10 =>
          s11.length + s5.length < 2 ^ 62 ∧
          again3 (w64 (v4.tdiv 10)) (s11 ++ s5) w_10)
        (k2 s5 w_6)) [.int .i64 v1, .str []] w) fun s12 w_13 =>
    joinK [.str] (fun k14 =>
      ifK (decide (v1 < 0))
      ([45].length + s12.length < 2 ^ 62 ∧
        k14 ([45] ++ s12) w_13)
      (k14 s12 w_13)) fun s15 w_16 =>
    K s15 w_16)

def N_winnowref15_Decimal : Ann := (.mk none [] [] .done .nil (.mk none [] [] .done .nil (.mk none [] [] .done .nil (.mk none [] [] .done .nil (.mk none [] [] .done (.mk (some [.tmp 3 (.leaf (.str))]) [] [4] .done (.mk none [.tmp 0 (.leaf (.int .i64)), .tmp 3 (.leaf (.str))] [4] .done (.mk none [] [] .done .nil (.mk none [] [] .done (.mk none [] [] .done .nil (.mk none [] [] .done (.mk none [] [] .done .nil (.mk (some [.tmp 5 (.leaf (.int .i64))]) [] [0, 3, 4] .done .nil .nil)) .nil)) .nil)) .nil) .nil) (.mk none [] [] .done (.mk none [] [] .done .nil (.mk (some [.tmp 3 (.leaf (.str))]) [] [] .done .nil .nil)) .nil))))))

theorem is_winnowref15_Decimal (v1 : Int) (K : List UInt8 → World → Prop) (w : World) : WF Tryz.prog CS Tryz.f24 N_winnowref15_Decimal (.one (.leaf (.str))) [.leaf (.int .i64 v1)] K w = S_winnowref15_Decimal v1 K w := by kernel_rfl
theorem go_winnowref15_Decimal (v1 : Int) (K : List UInt8 → World → Prop) (w : World) (h : S_winnowref15_Decimal v1 K w) : callK Tryz.prog 24 [.leaf (.int .i64 v1)] w (.one (.leaf (.str))) K := by
  refine WF_sound (n := N_winnowref15_Decimal) CS_ok mixed Tryz.func24 ?_
  rw [is_winnowref15_Decimal]
  exact h


end Go.Proofs.YtjefbjfifjjpmaeGreatDoor
