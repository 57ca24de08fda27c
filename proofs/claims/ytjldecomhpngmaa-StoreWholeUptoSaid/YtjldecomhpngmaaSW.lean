/- Readings: StoreWhole. -/
import Derived.Test.YtjldecomhpngmaaS0
namespace Go.Proofs.Ytjldecomhpngmaa
open Go.Vw
-- 6 winnow/winnowlaw5.StoreWhole
def S_winnowlaw5_StoreWhole (pieces1 : Sl) (K : Bool → World → Prop) (w : World) : Prop :=
  callK Try.prog 10 [] w (.one (.leaf (.ptr))) fun p2 w_3 =>
  al w_3 51 [.sl (⟨none, 0, 0⟩), .lit false, .lit false, .lit false, .int .i64 0, .sl (⟨none, 0, 0⟩), .lit false, .lit false, .lit false, .int .i64 0, .sl (⟨none, 0, 0⟩), .lit false, .lit false, .lit false, .int .i64 0, .sl (⟨none, 0, 0⟩), .lit false, .lit false, .lit false, .int .i64 0] fun b4 w_5 =>
  ifK p2.isNone
  (K false w_5)
  (joinK [] (fun k6 =>
      loopL [.int .i64] (fun k8 w_9 again7 =>
        ifK (decide (k8 < 4))
        (callK Try.prog 21 [.leaf (.int .i64 k8)] w_9 (.one (.leaf (.str))) fun s10 w_11 =>
          callK Try.prog 11 [.leaf (.ptr p2), .leaf (.str s10)] w_11 (.one (.leaf (.int .i64))) fun n12 w_13 =>
          ifK (n12 != 0)
          (K false w_13)
          (again7 (w64 (k8 + 1)) w_13))
        (k6 w_9)) [.int .i64 0] w_5) fun w_14 =>
    joinK [] (fun k15 =>
      loopL [.int .i64, .int .i64] (fun most17 i18 w_19 again16 =>
        ifK (decide (i18 < (pieces1.len : Int)))
        (ix pieces1 5 i18 fun b20 o21 =>
          ld w_19 (.int .i64) b20 o21 fun n22 =>
          ld w_19 .sl b20 (o21 + 1) fun a23 =>
          ld w_19 .bool b20 (o21 + 2) fun c24 =>
          ld w_19 (.int .i64) b20 (o21 + 3) fun n25 =>
          ld w_19 .bool b20 (o21 + 4) fun c26 =>
          al w_19 54 [.int .i64 0, .sl (⟨none, 0, 0⟩), .lit false, .int .i64 0, .lit false] fun b27 w_28 =>
          st w_28 b27 0 [.int .i64 n22, .sl a23, .bool c24, .int .i64 n25, .bool c26] fun w_29 =>
          ld w_29 .sl b27 1 fun a30 =>
          callK Try.prog 9 [.leaf (.sl a30)] w_29 (.one (.leaf (.sl))) fun a31 w_32 =>
          st w_32 b27 1 [.sl a31] fun w_33 =>
          ld w_33 .sl b27 1 fun a34 =>
          ifK (decide (268435456 < w64 (most17 + (a34.len : Int))))
          (callK Try.prog 17 [] w_33 (.one (.leaf (.bool))) fun c35 w_36 =>
            K c35 w_36)
          (ld w_33 (.int .i64) b27 0 fun n37 =>
            joinK [.int .i64] (fun k38 =>
              ifK (decide (n37.tmod 4 < 0))
              (k38 (w64 ((n37.tmod 4) + 4)) w_33)
              (k38 (n37.tmod 4) w_33)) fun k39 w_40 =>
            ld w_40 .bool b27 2 fun c41 =>
            joinK [] (fun k42 =>
              ifK c41
              (drawK w_40 fun D w_43 =>
                ldD D w_43 (.int .i64) b27 3 fun n44 =>
                callK Try.prog 21 [.leaf (.int .i64 k39)] w_43 (.one (.leaf (.str))) fun s45 w_46 =>
                Mod D w_43 w_46 ∧
                callK Try.prog 22 [.leaf (.ptr p2), .leaf (.str s45), .leaf (.int .i64 n44)] w_46 (.one (.leaf (.int .i64))) fun n47 w_48 =>
                Mod D w_43 w_48 ∧
                joinK [.bool] (fun k49 =>
                  0 ≤ k39 ∧ k39 < (4 : Int) ∧
                  ld w_48 .bool b4 ((0 + k39.toNat * 5) + 1) fun c50 =>
                  ifK (!c50)
                  (0 ≤ k39 ∧ k39 < (4 : Int) ∧
                    ld w_48 .bool b4 ((0 + k39.toNat * 5) + 2) fun c51 =>
                    opF Try.prog (vS (do eqGuard .neq 4 (.tmp 68) (.tmp 80) (LV.toV (.bool (n47 == 0))) (LV.toV (.bool (!c51))); binOp .neq 4 (LV.toV (.bool (n47 == 0))) (LV.toV (.bool (!c51))))) w_48 (.one (.leaf (.bool))) fun c53 w_52 =>
                    k49 c53 w_52)
                  (opF Try.prog (vS (do eqGuard .neq 4 (.tmp 68) (.tmp 80) (LV.toV (.bool (n47 == 0))) (LV.toV (.lit false)); binOp .neq 4 (LV.toV (.bool (n47 == 0))) (LV.toV (.lit false)))) w_48 (.one (.leaf (.bool))) fun c55 w_54 =>
                    k49 c55 w_54)) fun t8156 w_57 =>
                ifK t8156
                (K false w_57)
                (joinK [] (fun k58 =>
                    ifK (n47 == 0)
                    (0 ≤ k39 ∧ k39 < (4 : Int) ∧
                      st w_57 b4 ((0 + k39.toNat * 5) + 3) [.lit true] fun w_59 =>
                      ld w_59 (.int .i64) b27 3 fun n60 =>
                      0 ≤ k39 ∧ k39 < (4 : Int) ∧
                      st w_59 b4 ((0 + k39.toNat * 5) + 4) [.int .i64 n60] fun w_61 =>
                      ld w_61 (.int .i64) b27 3 fun n62 =>
                      joinK [] (fun k63 =>
                        ifK (decide (n62 < 0))
                        (0 ≤ k39 ∧ k39 < (4 : Int) ∧
                          st w_61 b4 ((0 + k39.toNat * 5) + 4) [.int .i64 0] fun w_64 =>
                          k63 w_64)
                        (k63 w_61)) fun w_65 =>
                      k58 w_65)
                    (k58 w_57)) fun w_66 =>
                  k42 w_66))
              (k42 w_40)) fun w_67 =>
            drawK w_67 fun D w_68 =>
            ldD D w_68 .sl b27 1 fun a69 =>
            0 ≤ k39 ∧ k39 < (4 : Int) ∧
            ldD D w_68 .sl b27 1 fun a70 =>
            callK Try.prog 21 [.leaf (.int .i64 k39)] w_68 (.one (.leaf (.str))) fun s71 w_72 =>
            Mod D w_68 w_72 ∧
            callK Try.prog 12 [.leaf (.ptr p2), .leaf (.str s71), .leaf (.sl a69)] w_72 (.one (.leaf (.int .i64))) fun n73 w_74 =>
            Mod D w_68 w_74 ∧
            callK Try.prog 23 [.leaf (.ptr (some (b4, (0 + k39.toNat * 5)))), .leaf (.sl a70)] w_74 (.one (.leaf (.int .i64))) fun n75 w_76 =>
            Mod D w_68 w_76 ∧
            ifK (n73 != n75)
            (K false w_76)
            (ld w_76 .bool b27 4 fun c77 =>
              joinK [] (fun k78 =>
                ifK c77
                (callK Try.prog 21 [.leaf (.int .i64 k39)] w_76 (.one (.leaf (.str))) fun s79 w_80 =>
                  callK Try.prog 13 [.leaf (.ptr p2), .leaf (.str s79)] w_80 (.one (.leaf (.int .i64))) fun n81 w_82 =>
                  joinK [.bool] (fun k83 =>
                    0 ≤ k39 ∧ k39 < (4 : Int) ∧
                    ld w_82 .bool b4 ((0 + k39.toNat * 5) + 1) fun c84 =>
                    ifK (!c84)
                    (0 ≤ k39 ∧ k39 < (4 : Int) ∧
                      ld w_82 .bool b4 ((0 + k39.toNat * 5) + 2) fun c85 =>
                      ifK (!c85)
                      (0 ≤ k39 ∧ k39 < (4 : Int) ∧
                        ld w_82 .bool b4 ((0 + k39.toNat * 5) + 3) fun c86 =>
                        opF Try.prog (vS (do eqGuard .neq 4 (.tmp 117) (.tmp 136) (LV.toV (.bool (n81 == 0))) (LV.toV (.bool (!c86))); binOp .neq 4 (LV.toV (.bool (n81 == 0))) (LV.toV (.bool (!c86))))) w_82 (.one (.leaf (.bool))) fun c88 w_87 =>
                        k83 c88 w_87)
                      (opF Try.prog (vS (do eqGuard .neq 4 (.tmp 117) (.tmp 136) (LV.toV (.bool (n81 == 0))) (LV.toV (.lit false)); binOp .neq 4 (LV.toV (.bool (n81 == 0))) (LV.toV (.lit false)))) w_82 (.one (.leaf (.bool))) fun c90 w_89 =>
                        k83 c90 w_89))
                    (opF Try.prog (vS (do eqGuard .neq 4 (.tmp 117) (.tmp 136) (LV.toV (.bool (n81 == 0))) (LV.toV (.lit false)); binOp .neq 4 (LV.toV (.bool (n81 == 0))) (LV.toV (.lit false)))) w_82 (.one (.leaf (.bool))) fun c92 w_91 =>
                      k83 c92 w_91)) fun t13793 w_94 =>
                  ifK t13793
                  (K false w_94)
                  (joinK [] (fun k95 =>
                      0 ≤ k39 ∧ k39 < (4 : Int) ∧
                      ld w_94 .bool b4 ((0 + k39.toNat * 5) + 2) fun c96 =>
                      ifK c96
                      (0 ≤ k39 ∧ k39 < (4 : Int) ∧
                        st w_94 b4 ((0 + k39.toNat * 5) + 2) [.lit true] fun w_97 =>
                        k95 w_97)
                      (0 ≤ k39 ∧ k39 < (4 : Int) ∧
                        ld w_94 .bool b4 ((0 + k39.toNat * 5) + 3) fun c98 =>
                        ifK c98
                        (0 ≤ k39 ∧ k39 < (4 : Int) ∧
                          ld w_94 .bool b4 ((0 + k39.toNat * 5) + 1) fun c99 =>
                          0 ≤ k39 ∧ k39 < (4 : Int) ∧
                          st w_94 b4 ((0 + k39.toNat * 5) + 2) [.bool (!c99)] fun w_100 =>
                          k95 w_100)
                        (0 ≤ k39 ∧ k39 < (4 : Int) ∧
                          st w_94 b4 ((0 + k39.toNat * 5) + 2) [.lit false] fun w_101 =>
                          k95 w_101))) fun w_102 =>
                    joinK [] (fun k103 =>
                      0 ≤ k39 ∧ k39 < (4 : Int) ∧
                      ld w_102 .bool b4 ((0 + k39.toNat * 5) + 1) fun c104 =>
                      ifK c104
                      (0 ≤ k39 ∧ k39 < (4 : Int) ∧
                        st w_102 b4 ((0 + k39.toNat * 5) + 1) [.lit true] fun w_105 =>
                        k103 w_105)
                      (0 ≤ k39 ∧ k39 < (4 : Int) ∧
                        st w_102 b4 ((0 + k39.toNat * 5) + 1) [.bool (n81 == 0)] fun w_106 =>
                        k103 w_106)) fun w_107 =>
                    k78 w_107))
                (k78 w_76)) fun w_108 =>
              joinK [] (fun k109 =>
                loopL [.int .i64] (fun n111 w_112 again110 =>
                  ifK (decide (n111 < 4))
                  (drawK w_112 fun D w_113 =>
                    0 ≤ n111 ∧ n111 < (4 : Int) ∧
                    ldD D w_113 .sl b4 (0 + n111.toNat * 5) fun a114 =>
                    callK Try.prog 21 [.leaf (.int .i64 n111)] w_113 (.one (.leaf (.str))) fun s115 w_116 =>
                    Mod D w_113 w_116 ∧
                    callK Try.prog 14 [.leaf (.ptr p2), .leaf (.str s115), .leaf (.int .i64 0), .leaf (.int .i64 (w64 ((a114.len : Int) + 9)))] w_116 (.tup [.leaf (.sl), .leaf (.int .i64)]) fun a117 n118 w_119 =>
                    Mod D w_113 w_119 ∧
                    joinK [.bool] (fun k120 =>
                      0 ≤ n111 ∧ n111 < (4 : Int) ∧
                      ld w_119 .bool b4 ((0 + n111.toNat * 5) + 1) fun c121 =>
                      ifK (!c121)
                      (ifK (n118 != 53)
                        (k120 true w_119)
                        (ifK ((a117.len : Int) != 0)
                          (k120 true w_119)
                          (0 ≤ n111 ∧ n111 < (4 : Int) ∧
                            ld w_119 .bool b4 ((0 + n111.toNat * 5) + 1) fun c122 =>
                            ifK c122
                            (ifK (n118 != 0)
                              (k120 true w_119)
                              (0 ≤ n111 ∧ n111 < (4 : Int) ∧
                                ld w_119 .sl b4 (0 + n111.toNat * 5) fun a123 =>
                                callK Try.prog 15 [.leaf (.sl a117), .leaf (.sl a123)] w_119 (.one (.leaf (.bool))) fun c124 w_125 =>
                                k120 (!c124) w_125))
                            (k120 false w_119))))
                      (0 ≤ n111 ∧ n111 < (4 : Int) ∧
                        ld w_119 .bool b4 ((0 + n111.toNat * 5) + 1) fun c126 =>
                        ifK c126
                        (ifK (n118 != 0)
                          (k120 true w_119)
                          (0 ≤ n111 ∧ n111 < (4 : Int) ∧
                            ld w_119 .sl b4 (0 + n111.toNat * 5) fun a127 =>
                            callK Try.prog 15 [.leaf (.sl a117), .leaf (.sl a127)] w_119 (.one (.leaf (.bool))) fun c128 w_129 =>
                            k120 (!c128) w_129))
                        (k120 false w_119))) fun t218130 w_131 =>
                    ifK t218130
                    (K false w_131)
                    (again110 (w64 (n111 + 1)) w_131))
                  (k109 w_112)) [.int .i64 0] w_108) fun w_132 =>
              again16 (w64 (most17 + (a34.len : Int))) (w64 (i18 + 1)) w_132)))
        (k15 w_19)) [.int .i64 0, .int .i64 0] w_14) fun w_133 =>
    callK Try.prog 24 [.leaf (.ptr p2), .leaf (.str [98, 108, 111, 98, 45])] w_133 (.one (.leaf (.sl))) fun a134 w_135 =>
    joinK [] (fun k136 =>
      loopL [.int .i64] (fun n138 w_139 again137 =>
        ifK (decide (n138 < 4))
        (0 ≤ n138 ∧ n138 < (4 : Int) ∧
          ld w_139 .bool b4 ((0 + n138.toNat * 5) + 1) fun c140 =>
          joinK [.int .i64] (fun k141 =>
            ifK c140
            (k141 2 w_139)
            (k141 1 w_139)) fun state142 w_143 =>
          joinK [.bool] (fun k144 =>
            drawK w_143 fun D w_145 =>
            ifK ((a134.len : Int) != 4)
            (k144 true w_145)
            (ix a134 3 n138 fun b146 o147 =>
              ldD D w_145 .str b146 o147 fun s148 =>
              ldD D w_145 (.int .i64) b146 (o147 + 1) fun n149 =>
              ldD D w_145 (.int .i64) b146 (o147 + 2) fun n150 =>
              0 ≤ n138 ∧ n138 < (4 : Int) ∧
              ldD D w_145 .sl b4 (0 + n138.toNat * 5) fun a151 =>
              callK Try.prog 21 [.leaf (.int .i64 n138)] w_145 (.one (.leaf (.str))) fun s152 w_153 =>
              Mod D w_145 w_153 ∧
              opF Try.prog (vS (do eqGuard .neq 59 (.tmp 236) (.tmp 245) (.agg #[(LV.toV (.str s148)), (LV.toV (.int .i64 n149)), (LV.toV (.int .i64 n150))]) (.agg #[(LV.toV (.str s152)), (LV.toV (.int .i64 state142)), (LV.toV (.int .i64 (a151.len : Int)))]); binOp .neq 59 (.agg #[(LV.toV (.str s148)), (LV.toV (.int .i64 n149)), (LV.toV (.int .i64 n150))]) (.agg #[(LV.toV (.str s152)), (LV.toV (.int .i64 state142)), (LV.toV (.int .i64 (a151.len : Int)))]))) w_153 (.one (.leaf (.bool))) fun c155 w_154 =>
              Mod D w_145 w_154 ∧
              k144 c155 w_154)) fun t247156 w_157 =>
          ifK t247156
          (K false w_157)
          (again137 (w64 (n138 + 1)) w_157))
        (k136 w_139)) [.int .i64 0] w_135) fun w_158 =>
    callK Try.prog 17 [] w_158 (.one (.leaf (.bool))) fun c159 w_160 =>
    K c159 w_160)

def N_winnowlaw5_StoreWhole : Ann := (.mk none [] [] .done .nil (.mk none [] [] .done .nil (.mk none [] [] .done .nil (.mk none [] [] .done .nil (.mk none [] [] .done (.mk none [] [] .done .nil (.mk (some []) [] [0, 3, 4] .done (.mk none [.tmp 5 (.leaf (.int .i64))] [0, 3, 4] .done .nil .nil) .nil)) (.mk none [] [] .done .nil (.mk none [] [] .done (.mk none [] [] .done .nil (.mk (some []) [] [3, 4] .done (.mk none [.tmp 6 (.leaf (.int .i64)), .tmp 7 (.leaf (.int .i64))] [0, 3, 4] .done (.mk none [] [] .done .nil (.mk none [] [] .done (.mk none [] [] .done (.mk none [] [] .done .nil (.mk none [] [] .done .nil (.mk none [] [] .done .nil (.mk none [] [] .done .nil (.mk none [] [] .done .nil (.mk none [] [] .done (.mk none [] [] .done .nil (.mk (some [.tmp 9 (.leaf (.int .i64))]) [] [0, 3, 4, 6, 7, 8] .done .nil .nil)) (.mk none [] [] .done (.mk none [] [] .done .nil (.mk (some []) [] [0, 3, 4, 6, 7, 8, 9] .done (.mk none [] [] .done (.mk none [] [] (.take 0 (.take 1 (.take 3 (.take 4 (.eff 2 (.eff 5 (.take 6 .done))))))) .nil .nil) (.mk none [] [] .done (.mk none [] [] .done (.mk (some [.tmp 81 (.leaf (.bool))]) [] [0, 3, 4, 6, 7, 8, 9, 10] .done .nil .nil) .nil) (.mk none [] [] .done .nil (.mk (some []) [] [0, 3, 4, 6, 7, 8, 9] .done (.mk none [] [] .done .nil (.mk none [] [] .done .nil (.mk none [] [] .done .nil (.mk (some []) [] [0, 3, 4, 6, 7, 8, 9] .done .nil .nil)))) .nil)))) .nil)) (.mk none [] [] .done (.mk none [] [] .done (.mk none [] [] (.take 0 (.take 1 (.take 3 (.take 4 (.take 6 (.take 7 (.take 8 (.take 9 (.eff 2 (.eff 5 (.eff 10 (.take 11 .done)))))))))))) .nil .nil) .nil) (.mk none [] [] .done (.mk none [] [] .done .nil (.mk (some []) [] [0, 3, 4, 6, 7] .done (.mk none [] [] .done .nil (.mk none [] [] .done (.mk none [] [] .done (.mk (some [.tmp 137 (.leaf (.bool))]) [] [0, 3, 4, 6, 7, 9, 11] .done .nil .nil) .nil) (.mk none [] [] .done (.mk (some []) [] [0, 3, 4, 6, 7, 9, 11] .done .nil .nil) (.mk (some []) [] [0, 3, 4, 6, 7] .done .nil .nil)))) .nil)) (.mk none [] [] .done .nil (.mk (some []) [] [0, 3, 4, 6, 7] .done (.mk none [.tmp 12 (.leaf (.int .i64))] [0, 3, 4, 6, 7] .done (.mk none [] [] .done .nil (.mk none [] [] .done (.mk none [] [] .done (.mk none [] [] .done (.mk none [] [] (.take 0 (.take 1 (.take 3 (.take 4 (.take 5 (.take 6 (.take 7 (.take 8 (.eff 2 (.eff 9 (.take 10 (.take 11 (.take 12 (.take 13 (.take 14 .done))))))))))))))) .nil .nil) (.mk none [] [] .done (.mk (some [.tmp 218 (.leaf (.bool))]) [] [0, 3, 4, 6, 7, 12] .done .nil .nil) .nil)) .nil) .nil)) .nil) .nil))))))))))) .nil) .nil)) .nil) .nil)) (.mk none [] [] .done .nil (.mk none [] [] .done (.mk none [] [] .done .nil (.mk (some []) [] [] .done (.mk none [.tmp 16 (.leaf (.int .i64))] [4, 15] .done (.mk none [] [] .done .nil (.mk none [] [] .done (.mk none [] [] .done (.mk none [] [] .done .nil (.mk none [] [] .done (.mk none [] [] .done .nil (.mk (some [.tmp 17 (.leaf (.int .i64))]) [] [4, 15, 16] .done .nil .nil)) (.mk none [] [] .done (.mk (some [.tmp 247 (.leaf (.bool))]) [] [4, 15, 16] (.take 0 (.take 1 (.take 2 (.take 3 (.split 3 (.take 4 (.take 5 (.take 6 (.take 7 (.take 8 (.take 9 (.take 10 (.take 11 (.take 12 (.take 13 (.take 14 (.take 15 (.take 16 (.take 17 (.take 18 .done))))))))))))))) (.take 4 (.take 5 (.take 6 (.take 7 (.take 8 (.take 10 (.take 11 (.take 12 (.take 13 (.take 14 (.take 15 (.eff 9 (.take 16 (.eff 17 (.take 18 .done)))))))))))))))))))) .nil .nil) .nil))) .nil) .nil)) .nil) .nil)) .nil)))))))))

theorem is_winnowlaw5_StoreWhole (pieces1 : Sl) (K : Bool → World → Prop) (w : World) : WF Try.prog CS Try.f6 N_winnowlaw5_StoreWhole (.one (.leaf (.bool))) [.leaf (.sl pieces1)] K w = S_winnowlaw5_StoreWhole pieces1 K w := by kernel_rfl
theorem go_winnowlaw5_StoreWhole (pieces1 : Sl) (K : Bool → World → Prop) (w : World) (h : S_winnowlaw5_StoreWhole pieces1 K w) : callK Try.prog 6 [.leaf (.sl pieces1)] w (.one (.leaf (.bool))) K := by
  refine WF_sound (n := N_winnowlaw5_StoreWhole) CS_ok mixed Try.func6 ?_
  rw [is_winnowlaw5_StoreWhole]
  exact h

-- 21 winnow/winnowlaw5.name
def S_winnowlaw5_name (k1 : Int) (K : List UInt8 → World → Prop) (w : World) : Prop :=
  al w 5 [.int .u8 (IntKind.wrap .u8 (w64 (97 + k1)))] fun b2 w_3 =>
  opF Try.prog (vS (convert 22 9 (LV.toV (.sl (⟨some (b2, 0), 1, 1⟩))))) w_3 (.one (.leaf (.str))) fun s5 w_4 =>
  [98, 108, 111, 98, 45].length + s5.length < 2 ^ 62 ∧
  K ([98, 108, 111, 98, 45] ++ s5) w_4

def N_winnowlaw5_name : Ann := .nil

theorem is_winnowlaw5_name (k1 : Int) (K : List UInt8 → World → Prop) (w : World) : WF Try.prog CS Try.f21 N_winnowlaw5_name (.one (.leaf (.str))) [.leaf (.int .i64 k1)] K w = S_winnowlaw5_name k1 K w := by kernel_rfl
theorem go_winnowlaw5_name (k1 : Int) (K : List UInt8 → World → Prop) (w : World) (h : S_winnowlaw5_name k1 K w) : callK Try.prog 21 [.leaf (.int .i64 k1)] w (.one (.leaf (.str))) K := by
  refine WF_sound (n := N_winnowlaw5_name) CS_ok mixed Try.func21 ?_
  rw [is_winnowlaw5_name]
  exact h

-- 23 (*winnow/winnowlaw5.Book).wants
def S_winnowlaw5_Book_wants (b1 : PA) (data2 : Sl) (K : Int → World → Prop) (w : World) : Prop :=
  dr b1 fun b3 o4 =>
  ld w .bool b3 (o4 + 1) fun c5 =>
  ifK c5
  (K 54 w)
  (dr b1 fun b6 o7 =>
    ld w .bool b6 (o7 + 2) fun c8 =>
    ifK c8
    (K 55 w)
    (dr b1 fun b9 o10 =>
      ld w .sl b9 o10 fun a11 =>
      joinK [.bool] (fun k12 =>
        dr b1 fun b13 o14 =>
        ld w .bool b13 (o14 + 3) fun c15 =>
        ifK c15
        (dr b1 fun b16 o17 =>
          ld w (.int .i64) b16 (o17 + 4) fun n18 =>
          k12 (decide (n18 < w64 ((a11.len : Int) + (data2.len : Int)))) w)
        (k12 false w)) fun t3519 w_20 =>
      ifK t3519
      (dr b1 fun b21 o22 =>
        ld w_20 (.int .i64) b21 (o22 + 4) fun n23 =>
        joinK [] (fun k24 =>
          ifK (decide ((a11.len : Int) < n23))
          (drawK w_20 fun D w_25 =>
            dr b1 fun b26 o27 =>
            ldD D w_25 .sl b26 o27 fun a28 =>
            dr b1 fun b29 o30 =>
            ldD D w_25 (.int .i64) b29 (o30 + 4) fun n31 =>
            slx data2 1 none (some (w64 (n31 - (a11.len : Int)))) none fun s32 =>
            ap w_25 5 1 1 [.int .u8 0] a28 s32 fun a33 w_34 =>
            Mod D w_25 w_34 ∧
            dr b1 fun b35 o36 =>
            st w_34 b35 o36 [.sl a33] fun w_37 =>
            k24 w_37)
          (k24 w_20)) fun w_38 =>
        dr b1 fun b39 o40 =>
        st w_38 b39 (o40 + 2) [.lit true] fun w_41 =>
        K 55 w_41)
      (dr b1 fun b42 o43 =>
        ld w_20 .sl b42 o43 fun a44 =>
        ap w_20 5 1 1 [.int .u8 0] a44 data2 fun a45 w_46 =>
        dr b1 fun b47 o48 =>
        st w_46 b47 o48 [.sl a45] fun w_49 =>
        K 0 w_49)))

def N_winnowlaw5_Book_wants : Ann := (.mk none [] [] .done .nil (.mk none [] [] .done .nil (.mk none [] [] .done .nil (.mk none [] [] .done (.mk none [] [] .done (.mk (some [.tmp 35 (.leaf (.bool))]) [] [0, 1, 5] .done .nil .nil) (.mk none [] [] .done (.mk none [] [] .done (.mk none [] [] .done .nil (.mk (some []) [] [0] .done (.mk none [] [] (.take 0 (.take 1 (.take 2 (.take 3 (.take 4 (.take 5 (.take 6 (.take 7 (.take 8 (.take 9 (.take 10 (.take 11 (.take 12 (.eff 13 (.take 14 (.take 15 (.last 16))))))))))))))))) .nil .nil) .nil)) .nil) .nil)) .nil))))

theorem is_winnowlaw5_Book_wants (b1 : PA) (data2 : Sl) (K : Int → World → Prop) (w : World) : WF Try.prog CS Try.f23 N_winnowlaw5_Book_wants (.one (.leaf (.int .i64))) [.leaf (.ptr b1), .leaf (.sl data2)] K w = S_winnowlaw5_Book_wants b1 data2 K w := by kernel_rfl
theorem go_winnowlaw5_Book_wants (b1 : PA) (data2 : Sl) (K : Int → World → Prop) (w : World) (h : S_winnowlaw5_Book_wants b1 data2 K w) : callK Try.prog 23 [.leaf (.ptr b1), .leaf (.sl data2)] w (.one (.leaf (.int .i64))) K := by
  refine WF_sound (n := N_winnowlaw5_Book_wants) CS_ok mixed Try.func23 ?_
  rw [is_winnowlaw5_Book_wants]
  exact h


end Go.Proofs.Ytjldecomhpngmaa
