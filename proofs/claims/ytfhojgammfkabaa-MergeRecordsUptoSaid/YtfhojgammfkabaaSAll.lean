/- Typed readings: MergeAll. -/
import Derived.Test.YtfhojgammfkabaaS0
namespace Go.Proofs.Ytfhojgammfkabaa
open Go.Vw
-- 7 winnow/winnowlaw11.MergeAll
def S_winnowlaw11_MergeAll (from_1 : Sl) (takes2 : Sl) (K : Bool → World → Prop) (w : World) : Prop :=
  al w 4 [.lit false] fun b3 w_4 =>
  callK Try.prog 20 [.leaf (.sl from_1)] w_4 (.one (.leaf (.sl))) fun a5 w_6 =>
  callK Try.prog 23 [.leaf (.sl a5)] w_6 (.tup [.leaf (.ptr), .leaf (.int .i64)]) fun p7 n8 w_9 =>
  ifK (decide (64 < (from_1.len : Int)))
  (st w_9 b3 0 [.bool (n8 == 3)] fun w_10 =>
    ld w_10 .bool b3 0 fun c11 =>
    K c11 w_10)
  (joinK [.bool] (fun k12 =>
      ifK (n8 != 0)
      (k12 true w_9)
      (k12 p7.isNone w_9)) fun t3813 w_14 =>
    ifK t3813
    (st w_14 b3 0 [.lit false] fun w_15 =>
      ld w_15 .bool b3 0 fun c16 =>
      K c16 w_15)
    (callK Try.prog 26 [.leaf (.sl from_1)] w_14 (.tup [.agg [.sl, .int .i64], .leaf (.sl)]) fun a17 n18 a19 w_20 =>
      al w_20 63 [.sl (⟨none, 0, 0⟩), .int .i64 0] fun b21 w_22 =>
      st w_22 b21 0 [.sl a17, .int .i64 n18] fun w_23 =>
      al w_23 3 [.int .i64 0] fun b24 w_25 =>
      st w_25 b24 0 [.int .i64 0] fun w_26 =>
      joinK [.marks] (fun k27 =>
        loopL [.int .i64, .marks] (fun i29 marks30 w_31 again28 =>
          ifK (decide (i29 < (takes2.len : Int)))
          (joinK [.marks] (fun k32 =>
              ix takes2 1 i29 fun b33 o34 =>
              ld w_31 (.int .i64) b33 o34 fun n35 =>
              al w_31 3 [.int .i64 0] fun b36 w_37 =>
              st w_37 b36 0 [.int .i64 n35] fun w_38 =>
              ifK ((i29.tmod 2) == 1)
              (joinK [] (fun k39 =>
                  loopL [.int .i64] (fun j41 w_42 again40 =>
                    joinK [.bool] (fun k43 =>
                      ld w_42 (.int .i64) b36 0 fun n44 =>
                      ifK (decide (j41 < n44))
                      (ld w_42 (.int .i64) b24 0 fun n45 =>
                        ld w_42 .sl b21 0 fun a46 =>
                        k43 (decide (n45 < (a46.len : Int))) w_42)
                      (k43 false w_42)) fun t6647 w_48 =>
                    ifK t6647
                    (callK Try.prog 27 [.leaf (.ptr p7)] w_48 (.tup [.agg [.int .i64, .int .i64], .leaf (.bool), .leaf (.int .i64)]) fun n49 n50 c51 n52 w_53 =>
                      al w_53 55 [.int .i64 0, .int .i64 0] fun b54 w_55 =>
                      st w_55 b54 0 [.int .i64 n49, .int .i64 n50] fun w_56 =>
                      joinK [.bool] (fun k57 =>
                        drawK w_56 fun D w_58 =>
                        ifK (!c51)
                        (k57 true w_58)
                        (ifK (n52 != 0)
                          (k57 true w_58)
                          (ldD D w_58 (.int .i64) b54 0 fun n59 =>
                            ldD D w_58 (.int .i64) b54 1 fun n60 =>
                            ldD D w_58 .sl b21 0 fun a61 =>
                            ldD D w_58 (.int .i64) b24 0 fun n62 =>
                            ix a61 2 n62 fun b63 o64 =>
                            ldD D w_58 (.int .i64) b63 o64 fun n65 =>
                            ldD D w_58 (.int .i64) b63 (o64 + 1) fun n66 =>
                            opF Try.prog (vS (do eqGuard .neq 55 (.tmp 82) (.tmp 87) (.agg #[(LV.toV (.int .i64 n59)), (LV.toV (.int .i64 n60))]) (.agg #[(LV.toV (.int .i64 n65)), (LV.toV (.int .i64 n66))]); binOp .neq 55 (.agg #[(LV.toV (.int .i64 n59)), (LV.toV (.int .i64 n60))]) (.agg #[(LV.toV (.int .i64 n65)), (LV.toV (.int .i64 n66))]))) w_58 (.one (.leaf (.bool))) fun c68 w_67 =>
                            Mod D w_58 w_67 ∧
                            k57 c68 w_67))) fun t8969 w_70 =>
                      ifK t8969
                      (st w_70 b3 0 [.lit false] fun w_71 =>
                        closeK marks30 w_71 fun w_72 =>
                        ld w_72 .bool b3 0 fun c73 =>
                        K c73 w_72)
                      (ld w_70 (.int .i64) b24 0 fun n74 =>
                        st w_70 b24 0 [.int .i64 (w64 (n74 + 1))] fun w_75 =>
                        again40 (w64 (j41 + 1)) w_75))
                    (k39 w_48)) [.int .i64 0] w_38) fun w_76 =>
                k32 marks30 w_76)
              (joinK [.bool] (fun k77 =>
                  ld w_38 (.int .i64) b36 0 fun n78 =>
                  ifK (decide (n78 < 1))
                  (k77 true w_38)
                  (ld w_38 (.int .i64) b24 0 fun n79 =>
                    ld w_38 .sl b21 0 fun a80 =>
                    k77 (n79 == (a80.len : Int)) w_38)) fun t10081 w_82 =>
                ifK t10081
                (k32 marks30 w_82)
                (callK Try.prog 28 [.leaf (.ptr p7)] w_82 (.one (.leaf (.val))) fun v83 w_84 =>
                  nilF v83 fun c85 =>
                  ifK c85
                  (st w_84 b3 0 [.lit false] fun w_86 =>
                    closeK marks30 w_86 fun w_87 =>
                    ld w_87 .bool b3 0 fun c88 =>
                    K c88 w_87)
                  (joinK [.marks] (fun k89 =>
                      rangeK Try.prog [.agg [.int .i64, .int .i64]] v83 none w_84 (fun rc99 x_0_97 x_1_98 w_91 beg94 next95 leave96 =>
                        al w_91 55 [.int .i64 0, .int .i64 0] fun b100 w_101 =>
                        st w_101 b100 0 [.int .i64 x_0_97, .int .i64 x_1_98] fun w_102 =>
                        beg94 w_102 fun w_103 =>
                        joinK [.bool] (fun k104 =>
                          drawK w_103 fun D w_105 =>
                          ldD D w_105 (.int .i64) b24 0 fun n106 =>
                          ldD D w_105 .sl b21 0 fun a107 =>
                          ifK (decide ((a107.len : Int) ≤ n106))
                          (k104 true w_105)
                          (ldD D w_105 (.int .i64) b100 0 fun n108 =>
                            ldD D w_105 (.int .i64) b100 1 fun n109 =>
                            ldD D w_105 .sl b21 0 fun a110 =>
                            ldD D w_105 (.int .i64) b24 0 fun n111 =>
                            ix a110 2 n111 fun b112 o113 =>
                            ldD D w_105 (.int .i64) b112 o113 fun n114 =>
                            ldD D w_105 (.int .i64) b112 (o113 + 1) fun n115 =>
                            opF Try.prog (vS (do eqGuard .neq 55 (.tmp 113) (.tmp 118) (.agg #[(LV.toV (.int .i64 n108)), (LV.toV (.int .i64 n109))]) (.agg #[(LV.toV (.int .i64 n114)), (LV.toV (.int .i64 n115))]); binOp .neq 55 (.agg #[(LV.toV (.int .i64 n108)), (LV.toV (.int .i64 n109))]) (.agg #[(LV.toV (.int .i64 n114)), (LV.toV (.int .i64 n115))]))) w_105 (.one (.leaf (.bool))) fun c117 w_116 =>
                            Mod D w_105 w_116 ∧
                            k104 c117 w_116)) fun t120118 w_119 =>
                        ifK t120118
                        (st w_119 b3 0 [.lit false] fun w_120 =>
                          leave96 0 w_120)
                        (ld w_119 (.int .i64) b24 0 fun n121 =>
                          st w_119 b24 0 [.int .i64 (w64 (n121 + 1))] fun w_122 =>
                          ld w_122 (.int .i64) b36 0 fun n123 =>
                          st w_122 b36 0 [.int .i64 (w64 (n123 - 1))] fun w_124 =>
                          joinK [.bool] (fun k125 =>
                            ld w_124 (.int .i64) b36 0 fun n126 =>
                            ifK (n126 == 0)
                            (k125 true w_124)
                            (ld w_124 (.int .i64) b24 0 fun n127 =>
                              ld w_124 .sl b21 0 fun a128 =>
                              k125 (n127 == (a128.len : Int)) w_124)) fun t133129 w_130 =>
                          ifK t133129
                          (leave96 1 w_130)
                          (next95 w_130))) (  fun r131 w_132 =>
                        k89 (r131 :: marks30) w_132) [  fun r133 w_134 =>
                        closeK (r133 :: marks30) w_134 fun w_135 =>
                        ld w_135 .bool b3 0 fun c136 =>
                        K c136 w_135,
                        fun r137 w_138 =>
                        k89 (r137 :: marks30) w_138]) fun marks139 w_140 =>
                    k32 marks139 w_140)))) fun marks141 w_142 =>
            again28 (w64 (i29 + 1)) marks141 w_142)
          (k27 marks30 w_31)) [.int .i64 0, .marks []] w_26) fun marks143 w_144 =>
      callK Try.prog 25 [.leaf (.ptr p7)] w_144 (.one (.leaf (.int .i64))) fun n145 w_146 =>
      ifK (n145 != 0)
      (st w_146 b3 0 [.lit false] fun w_147 =>
        closeK marks143 w_147 fun w_148 =>
        ld w_148 .bool b3 0 fun c149 =>
        K c149 w_148)
      (callK Try.prog 28 [.leaf (.ptr p7)] w_146 (.one (.leaf (.val))) fun v150 w_151 =>
        nilF v150 fun c152 =>
        ifK c152
        (st w_151 b3 0 [.lit false] fun w_153 =>
          closeK marks143 w_153 fun w_154 =>
          ld w_154 .bool b3 0 fun c155 =>
          K c155 w_154)
        (rangeK Try.prog [.agg [.int .i64, .int .i64]] v150 none w_151 (fun rc165 x_0_163 x_1_164 w_157 beg160 next161 leave162 =>
            al w_157 55 [.int .i64 0, .int .i64 0] fun b166 w_167 =>
            st w_167 b166 0 [.int .i64 x_0_163, .int .i64 x_1_164] fun w_168 =>
            beg160 w_168 fun w_169 =>
            joinK [.bool] (fun k170 =>
              drawK w_169 fun D w_171 =>
              ldD D w_171 (.int .i64) b24 0 fun n172 =>
              ldD D w_171 .sl b21 0 fun a173 =>
              ifK (decide ((a173.len : Int) ≤ n172))
              (k170 true w_171)
              (ldD D w_171 (.int .i64) b166 0 fun n174 =>
                ldD D w_171 (.int .i64) b166 1 fun n175 =>
                ldD D w_171 .sl b21 0 fun a176 =>
                ldD D w_171 (.int .i64) b24 0 fun n177 =>
                ix a176 2 n177 fun b178 o179 =>
                ldD D w_171 (.int .i64) b178 o179 fun n180 =>
                ldD D w_171 (.int .i64) b178 (o179 + 1) fun n181 =>
                opF Try.prog (vS (do eqGuard .neq 55 (.tmp 149) (.tmp 154) (.agg #[(LV.toV (.int .i64 n174)), (LV.toV (.int .i64 n175))]) (.agg #[(LV.toV (.int .i64 n180)), (LV.toV (.int .i64 n181))]); binOp .neq 55 (.agg #[(LV.toV (.int .i64 n174)), (LV.toV (.int .i64 n175))]) (.agg #[(LV.toV (.int .i64 n180)), (LV.toV (.int .i64 n181))]))) w_171 (.one (.leaf (.bool))) fun c183 w_182 =>
                Mod D w_171 w_182 ∧
                k170 c183 w_182)) fun t156184 w_185 =>
            ifK t156184
            (st w_185 b3 0 [.lit false] fun w_186 =>
              leave162 0 w_186)
            (ld w_185 (.int .i64) b24 0 fun n187 =>
              st w_185 b24 0 [.int .i64 (w64 (n187 + 1))] fun w_188 =>
              next161 w_188)) (  fun r189 w_190 =>
            joinK [] (fun k191 =>
              drawK w_190 fun D w_192 =>
              ldD D w_192 (.int .i64) b24 0 fun n193 =>
              ldD D w_192 .sl b21 0 fun a194 =>
              ifK (n193 == (a194.len : Int))
              (ldD D w_192 (.int .i64) b21 1 fun n195 =>
                callK Try.prog 25 [.leaf (.ptr p7)] w_192 (.one (.leaf (.int .i64))) fun n196 w_197 =>
                Mod D w_192 w_197 ∧
                st w_197 b3 0 [.bool (n196 == n195)] fun w_198 =>
                k191 w_198)
              (st w_192 b3 0 [.lit false] fun w_199 =>
                k191 w_199)) fun w_200 =>
            closeK (r189 :: marks143) w_200 fun w_201 =>
            ld w_201 .bool b3 0 fun c202 =>
            K c202 w_201) [  fun r203 w_204 =>
            closeK (r203 :: marks143) w_204 fun w_205 =>
            ld w_205 .bool b3 0 fun c206 =>
            K c206 w_205]))))

def N_winnowlaw11_MergeAll : Ann := (.mk none [] [] .done .nil (.mk none [] [] .done .nil (.mk none [] [] .done .nil (.mk none [] [] .done .nil (.mk none [] [] .done (.mk none [] [] .done (.mk (some [.tmp 38 (.leaf (.bool))]) [] [0, 1, 4, 6] .done .nil .nil) .nil) (.mk none [] [] .done .nil (.mk none [] [] .done .nil (.mk none [] [] .done (.mk none [] [] .done .nil (.mk (some [.marks]) [] [4, 6, 8, 10] .done (.mk none [.tmp 11 (.leaf (.int .i64)), .marks] [1, 4, 6, 8, 10] .done (.mk none [] [] .done .nil (.mk none [] [] .done (.mk (some [.marks]) [] [1, 4, 6, 8, 10, 11] .done (.mk none [] [] .done .nil (.mk none [] [] .done (.mk none [] [] .done .nil (.mk none [] [] .done (.mk none [] [] .done (.mk none [] [] .done .nil (.mk (some []) [] [1, 4, 6, 8, 10, 11] .done (.mk none [.tmp 13 (.leaf (.int .i64))] [1, 4, 6, 8, 10, 11, 12] .done (.mk none [] [] .done (.mk none [] [] .done (.mk (some [.tmp 66 (.leaf (.bool))]) [] [1, 4, 6, 8, 10, 11, 12, 13] .done .nil .nil) .nil) (.mk none [] [] .done (.mk none [] [] .done (.mk none [] [] .done .nil (.mk none [] [] .done (.mk none [] [] .done (.mk (some [.tmp 89 (.leaf (.bool))]) [] [1, 4, 6, 8, 10, 11, 12, 13] (.take 0 (.take 1 (.take 2 (.split 2 (.take 3 (.take 4 (.take 5 (.take 6 (.take 7 (.take 8 (.take 9 (.take 10 (.take 11 (.take 12 (.take 13 (.take 14 .done)))))))))))) (.take 3 (.take 4 (.take 5 (.take 6 (.split 6 (.take 7 (.take 8 (.take 9 (.take 10 (.take 11 (.take 12 (.take 13 (.take 14 .done)))))))) (.take 7 (.take 8 (.take 9 (.take 10 (.take 11 (.take 12 (.eff 13 (.take 14 .done))))))))))))))))) .nil .nil) .nil) .nil)) .nil) .nil)) .nil) .nil)) .nil) .nil)) (.mk none [] [] .done (.mk none [] [] .done (.mk (some [.tmp 100 (.leaf (.bool))]) [] [1, 4, 6, 8, 10, 11, 12] .done .nil .nil) .nil) (.mk none [] [] .done .nil (.mk none [] [] .done .nil (.mk none [] [] .done .nil (.mk (some [.marks]) [] [1, 4, 6, 8, 10, 11] .done (.range [.agg [.int .i64, .int .i64]] .nil (.mk none [] [] .done (.mk none [] [] .done (.mk none [] [] .done (.mk (some [.tmp 120 (.leaf (.bool))]) [] [4, 8, 10, 12] (.take 0 (.take 1 (.take 2 (.take 3 (.take 4 (.take 5 (.split 5 (.take 6 (.take 7 (.take 8 (.take 9 (.take 10 (.take 11 (.take 12 (.take 13 .done)))))))) (.take 6 (.take 7 (.take 8 (.take 9 (.take 10 (.take 11 (.eff 12 (.take 13 .done))))))))))))))) .nil .nil) .nil) (.mk none [] [] .done .nil (.mk none [] [] .done .nil (.mk none [] [] .done (.mk (some [.tmp 133 (.leaf (.bool))]) [] [] .done .nil .nil) .nil)))) .nil)) .nil))))))) .nil) .nil)) .nil) .nil)) (.mk none [] [] .done .nil (.mk none [] [] .done .nil (.mk none [] [] .done .nil (.mk none [] [] .done (.mk none [] [] .done .nil (.mk none [] [] .done (.range [.agg [.int .i64, .int .i64]] .nil (.mk none [] [] .done (.mk none [] [] .done (.mk none [] [] .done (.mk (some [.tmp 156 (.leaf (.bool))]) [] [4, 10] (.take 0 (.take 1 (.take 2 (.take 3 (.take 4 (.take 5 (.split 5 (.take 6 (.take 7 (.take 8 (.take 9 (.take 10 (.take 11 (.take 12 (.take 13 .done)))))))) (.take 6 (.take 7 (.take 8 (.take 9 (.take 10 (.take 11 (.eff 12 (.take 13 .done))))))))))))))) .nil .nil) .nil) .nil) .nil)) .nil)) (.mk none [] [] .done (.mk (some []) [] [4] (.take 0 (.take 1 (.take 2 (.take 3 (.take 4 (.take 5 (.split 5 (.take 6 (.take 8 (.take 9 (.eff 7 (.take 10 (.take 11 (.last 12))))))) (.take 6 (.take 7 (.take 8 (.take 9 (.take 10 (.take 11 (.last 12)))))))))))))) .nil .nil) .nil)))))))))))))

theorem is_winnowlaw11_MergeAll (from_1 : Sl) (takes2 : Sl) (K : Bool → World → Prop) (w : World) : WF Try.prog CS Try.f7 N_winnowlaw11_MergeAll (.one (.leaf (.bool))) [.leaf (.sl from_1), .leaf (.sl takes2)] K w = S_winnowlaw11_MergeAll from_1 takes2 K w := by kernel_rfl
theorem go_winnowlaw11_MergeAll (from_1 : Sl) (takes2 : Sl) (K : Bool → World → Prop) (w : World) (h : S_winnowlaw11_MergeAll from_1 takes2 K w) : callK Try.prog 7 [.leaf (.sl from_1), .leaf (.sl takes2)] w (.one (.leaf (.bool))) K := by
  refine WF_sound (n := N_winnowlaw11_MergeAll) CS_ok mixed Try.func7 ?_
  rw [is_winnowlaw11_MergeAll]
  exact h


end Go.Proofs.Ytfhojgammfkabaa
