/- Typed readings: MergeGroups. -/
import Derived.Test.YtfhojgammfkabaaS0
namespace Go.Proofs.Ytfhojgammfkabaa
open Go.Vw
-- 3 winnow/winnowlaw11.MergeGroups
def S_winnowlaw11_MergeGroups (pairs1 : Sl) (most2 : Int) (K : Bool → World → Prop) (w : World) : Prop :=
  al w 3 [.int .i64 most2] fun b3 w_4 =>
  al w_4 4 [.lit false] fun b5 w_6 =>
  al w_6 25 [.sl pairs1, .int .i64 0, .int .i64 0] fun b7 w_8 =>
  callK Try.prog 11 [.leaf (.sl pairs1)] w_8 (.one (.leaf (.sl))) fun a9 w_10 =>
  al w_10 26 [.sl (⟨none, 0, 0⟩)] fun b11 w_12 =>
  st w_12 b11 0 [.sl a9] fun w_13 =>
  callK Try.prog 12 [.leaf (.val (.func (.func 13) #[(LV.toV (.ptr (some (b7, 0))))] #[]))] w_13 (.one (.leaf (.val))) fun v14 w_15 =>
  callK Try.prog 12 [.leaf (.val .nilFunc)] w_15 (.one (.leaf (.val))) fun v16 w_17 =>
  joinK [.bool] (fun k18 =>
    nilF v14 fun c19 =>
    ifK c19
    (k18 true w_17)
    (nilF v16 fun c20 =>
      ifK c20
      (k18 true w_17)
      (dr (some (b7, 0)) fun b21 o22 =>
        ld w_17 (.int .i64) b21 (o22 + 1) fun n23 =>
        k18 (n23 != 0) w_17))) fun t3824 w_25 =>
  ifK t3824
  (st w_25 b5 0 [.lit false] fun w_26 =>
    ld w_26 .bool b5 0 fun c27 =>
    K c27 w_26)
  (al w_25 32 [.sl (⟨none, 0, 0⟩)] fun b28 w_29 =>
    al w_29 32 [.sl (⟨none, 0, 0⟩)] fun b30 w_31 =>
    al w_31 32 [.sl (⟨none, 0, 0⟩)] fun b32 w_33 =>
    al w_33 3 [.int .i64 0] fun b34 w_35 =>
    st w_35 b34 0 [.int .i64 0] fun w_36 =>
    joinK [.marks] (fun k37 =>
      loopL [.adr, .marks] (fun round39 marks40 w_41 again38 =>
        ld w_41 (.int .i64) round39.1 round39.2 fun n42 =>
        ifK (decide (n42 < 3))
        (al w_41 3 [.int .i64 0] fun b43 w_44 =>
          st w_44 b43 0 [.int .i64 0] fun w_45 =>
          joinK [.marks] (fun k46 =>
            rangeK Try.prog [.leaf (.str), .leaf (.sl)] v14 none w_45 (fun rc56 x54 x55 w_48 beg51 next52 leave53 =>
              beg51 w_48 fun w_57 =>
              joinK [.bool] (fun k58 =>
                ld w_57 (.int .i64) b43 0 fun n59 =>
                ld w_57 .sl b11 0 fun a60 =>
                ifK (decide ((a60.len : Int) ≤ n59))
                (k58 true w_57)
                (ld w_57 .sl b11 0 fun a61 =>
                  ld w_57 (.int .i64) b43 0 fun n62 =>
                  ix a61 2 n62 fun b63 o64 =>
                  ld w_57 .str b63 o64 fun s65 =>
                  ifK (!(s65 == x54))
                  (k58 true w_57)
                  (ld w_57 .sl b11 0 fun a66 =>
                    ld w_57 (.int .i64) b43 0 fun n67 =>
                    ix a66 2 n67 fun b68 o69 =>
                    ld w_57 .sl b68 (o69 + 1) fun a70 =>
                    callK Try.prog 14 [.leaf (.sl x55), .leaf (.sl a70)] w_57 (.one (.leaf (.bool))) fun c71 w_72 =>
                    k58 (!c71) w_72))) fun t6873 w_74 =>
              ifK t6873
              (st w_74 b5 0 [.lit false] fun w_75 =>
                leave53 0 w_75)
              (ld w_74 (.int .i64) round39.1 round39.2 fun n76 =>
                joinK [] (fun k77 =>
                  ifK (n76 == 0)
                  (ld w_74 .sl b28 0 fun a78 =>
                    al w_74 33 [.sl x55] fun b79 w_80 =>
                    ap w_80 33 1 24 [.sl (⟨none, 0, 0⟩)] a78 (⟨some (b79, 0), 1, 1⟩) fun a81 w_82 =>
                    st w_82 b28 0 [.sl a81] fun w_83 =>
                    k77 w_83)
                  (joinK [] (fun k84 =>
                      ifK (n76 == 1)
                      (al w_74 33 [.sl x55] fun b85 w_86 =>
                        callK Try.prog 15 [.leaf (.sl (⟨some (b85, 0), 1, 1⟩)), .leaf (.str [109, 97, 114, 107, 101, 100])] w_86 (.tup []) fun w_87 =>
                        al w_87 33 [.sl x55] fun b88 w_89 =>
                        callK Try.prog 16 [.leaf (.sl (⟨some (b88, 0), 1, 1⟩))] w_89 (.tup []) fun w_90 =>
                        ld w_90 .sl b30 0 fun a91 =>
                        al w_90 33 [.sl x55] fun b92 w_93 =>
                        ap w_93 33 1 24 [.sl (⟨none, 0, 0⟩)] a91 (⟨some (b92, 0), 1, 1⟩) fun a94 w_95 =>
                        st w_95 b30 0 [.sl a94] fun w_96 =>
                        k84 w_96)
                      (joinK [] (fun k97 =>
                          ifK (n76 == 2)
                          (ld w_74 .sl b32 0 fun a98 =>
                            al w_74 33 [.sl x55] fun b99 w_100 =>
                            ap w_100 33 1 24 [.sl (⟨none, 0, 0⟩)] a98 (⟨some (b99, 0), 1, 1⟩) fun a101 w_102 =>
                            st w_102 b32 0 [.sl a101] fun w_103 =>
                            k97 w_103)
                          (k97 w_74)) fun w_104 =>
                        k84 w_104)) fun w_105 =>
                    k77 w_105)) fun w_106 =>
                ld w_106 (.int .i64) b43 0 fun n107 =>
                st w_106 b43 0 [.int .i64 (w64 (n107 + 1))] fun w_108 =>
                joinK [.bool] (fun k109 =>
                  ld w_108 (.int .i64) round39.1 round39.2 fun n110 =>
                  ifK (n110 == 1)
                  (ld w_108 (.int .i64) b43 0 fun n111 =>
                    ld w_108 (.int .i64) b3 0 fun n112 =>
                    k109 (n111 == n112) w_108)
                  (k109 false w_108)) fun t102113 w_114 =>
                ifK t102113
                (leave53 1 w_114)
                (next52 w_114))) (  fun r115 w_116 =>
              k46 (r115 :: marks40) w_116) [  fun r117 w_118 =>
              closeK (r117 :: marks40) w_118 fun w_119 =>
              ld w_119 .bool b5 0 fun c120 =>
              K c120 w_119,
              fun r121 w_122 =>
              k46 (r121 :: marks40) w_122]) fun marks123 w_124 =>
          joinK [.bool] (fun k125 =>
            drawK w_124 fun D w_126 =>
            ldD D w_126 (.int .i64) b43 0 fun n127 =>
            ldD D w_126 .sl b11 0 fun a128 =>
            ifK (n127 != (a128.len : Int))
            (ldD D w_126 (.int .i64) round39.1 round39.2 fun n129 =>
              ifK (n129 != 1)
              (k125 true w_126)
              (ldD D w_126 (.int .i64) b43 0 fun n130 =>
                ldD D w_126 (.int .i64) b3 0 fun n131 =>
                ifK (n130 != n131)
                (k125 true w_126)
                (dr (some (b7, 0)) fun b132 o133 =>
                  ldD D w_126 (.int .i64) b132 (o133 + 1) fun n134 =>
                  ldD D w_126 (.int .i64) round39.1 round39.2 fun n135 =>
                  k125 (n134 != (w64 (n135 + 1))) w_126)))
            (dr (some (b7, 0)) fun b136 o137 =>
              ldD D w_126 (.int .i64) b136 (o137 + 1) fun n138 =>
              ldD D w_126 (.int .i64) round39.1 round39.2 fun n139 =>
              k125 (n138 != (w64 (n139 + 1))) w_126)) fun t124140 w_141 =>
          ifK t124140
          (st w_141 b5 0 [.lit false] fun w_142 =>
            closeK marks123 w_142 fun w_143 =>
            ld w_143 .bool b5 0 fun c144 =>
            K c144 w_143)
          (ld w_141 (.int .i64) round39.1 round39.2 fun n145 =>
            al w_141 3 [.int .i64 0] fun b146 w_147 =>
            st w_147 b146 0 [.int .i64 n145] fun w_148 =>
            ld w_148 (.int .i64) b146 0 fun n149 =>
            st w_148 b146 0 [.int .i64 (w64 (n149 + 1))] fun w_150 =>
            again38 (b146, 0) marks123 w_150))
        (k37 marks40 w_41)) [.ptr (some (b34, 0)), .marks []] w_36) fun marks151 w_152 =>
    joinK [] (fun k153 =>
      loopL [.int .i64] (fun i155 w_156 again154 =>
        ld w_156 .sl b11 0 fun a157 =>
        ifK (decide (i155 < (a157.len : Int)))
        (joinK [.bool] (fun k158 =>
            drawK w_156 fun D w_159 =>
            ldD D w_159 .sl b28 0 fun a160 =>
            ix a160 1 i155 fun b161 o162 =>
            ldD D w_159 .sl b161 o162 fun a163 =>
            ldD D w_159 .sl b11 0 fun a164 =>
            ix a164 2 i155 fun b165 o166 =>
            ldD D w_159 .sl b165 (o166 + 1) fun a167 =>
            callK Try.prog 14 [.leaf (.sl a163), .leaf (.sl a167)] w_159 (.one (.leaf (.bool))) fun c168 w_169 =>
            Mod D w_159 w_169 ∧
            ifK (!c168)
            (k158 true w_169)
            (ldD D w_159 .sl b32 0 fun a170 =>
              ix a170 1 i155 fun b171 o172 =>
              ldD D w_159 .sl b171 o172 fun a173 =>
              ldD D w_159 .sl b11 0 fun a174 =>
              ix a174 2 i155 fun b175 o176 =>
              ldD D w_159 .sl b175 (o176 + 1) fun a177 =>
              callK Try.prog 14 [.leaf (.sl a173), .leaf (.sl a177)] w_169 (.one (.leaf (.bool))) fun c178 w_179 =>
              Mod D w_159 w_179 ∧
              k158 (!c178) w_179)) fun t155180 w_181 =>
          ifK t155180
          (st w_181 b5 0 [.lit false] fun w_182 =>
            closeK marks151 w_182 fun w_183 =>
            ld w_183 .bool b5 0 fun c184 =>
            K c184 w_183)
          (again154 (w64 (i155 + 1)) w_181))
        (k153 w_156)) [.int .i64 0] w_152) fun w_185 =>
    ld w_185 .sl b28 0 fun a186 =>
    callK Try.prog 15 [.leaf (.sl a186), .leaf (.str [102, 105, 114, 115, 116])] w_185 (.tup []) fun w_187 =>
    ld w_187 .sl b32 0 fun a188 =>
    callK Try.prog 15 [.leaf (.sl a188), .leaf (.str [108, 97, 115, 116])] w_187 (.tup []) fun w_189 =>
    ld w_189 .sl b28 0 fun a190 =>
    callK Try.prog 16 [.leaf (.sl a190)] w_189 (.tup []) fun w_191 =>
    ld w_191 .sl b32 0 fun a192 =>
    callK Try.prog 16 [.leaf (.sl a192)] w_191 (.tup []) fun w_193 =>
    joinK [.bool] (fun k194 =>
      ld w_193 .sl b28 0 fun a195 =>
      callK Try.prog 17 [.leaf (.sl a195), .leaf (.str [102, 105, 114, 115, 116])] w_193 (.one (.leaf (.bool))) fun c196 w_197 =>
      ifK (!c196)
      (k194 true w_197)
      (ld w_197 .sl b30 0 fun a198 =>
        callK Try.prog 17 [.leaf (.sl a198), .leaf (.str [109, 97, 114, 107, 101, 100])] w_197 (.one (.leaf (.bool))) fun c199 w_200 =>
        ifK (!c199)
        (k194 true w_200)
        (ld w_200 .sl b32 0 fun a201 =>
          callK Try.prog 17 [.leaf (.sl a201), .leaf (.str [108, 97, 115, 116])] w_200 (.one (.leaf (.bool))) fun c202 w_203 =>
          k194 (!c202) w_203))) fun t176204 w_205 =>
    ifK t176204
    (st w_205 b5 0 [.lit false] fun w_206 =>
      closeK marks151 w_206 fun w_207 =>
      ld w_207 .bool b5 0 fun c208 =>
      K c208 w_207)
    (rangeK Try.prog [.leaf (.str), .leaf (.sl)] v16 none w_205 (fun rc218 x216 x217 w_210 beg213 next214 leave215 =>
        beg213 w_210 fun w_219 =>
        st w_219 b5 0 [.lit false] fun w_220 =>
        leave215 0 w_220) (  fun r221 w_222 =>
        st w_222 b5 0 [.lit true] fun w_223 =>
        closeK (r221 :: marks151) w_223 fun w_224 =>
        ld w_224 .bool b5 0 fun c225 =>
        K c225 w_224) [  fun r226 w_227 =>
        closeK (r226 :: marks151) w_227 fun w_228 =>
        ld w_228 .bool b5 0 fun c229 =>
        K c229 w_228]))

def N_winnowlaw11_MergeGroups : Ann := (.mk none [] [] .done .nil (.mk none [] [] .done .nil (.mk none [] [] .done .nil (.mk none [] [] .done .nil (.mk none [] [] .done .nil (.mk none [] [] .done (.mk none [] [] .done (.mk (some [.tmp 38 (.leaf (.bool))]) [] [3, 4, 5, 6, 7, 8] .done .nil .nil) .nil) (.mk none [] [] .done .nil (.mk none [] [] .done (.mk none [] [] .done .nil (.mk (some [.marks]) [] [4, 6, 8, 9, 10, 11] .done (.mk none [.tmp 12 (.leaf (.adr)), .marks] [3, 4, 5, 6, 7, 8, 9, 10, 11] .done (.mk none [] [] .done .nil (.mk none [] [] .done (.mk none [] [] .done (.mk none [] [] .done .nil (.mk none [] [] .done (.mk none [] [] .done .nil (.mk (some [.marks]) [] [3, 4, 5, 6, 7, 8, 9, 10, 11, 12, 13] .done (.range [.leaf (.str), .leaf (.sl)] .nil (.mk none [] [] .done (.mk none [] [] .done (.mk none [] [] .done (.mk (some [.tmp 68 (.leaf (.bool))]) [] [3, 4, 9, 10, 11, 12, 13, 15] .done .nil .nil) .nil) (.mk none [] [] .done (.mk none [] [] .done .nil (.mk none [] [] .done (.mk none [] [] .done .nil (.mk (some []) [] [3, 12, 13] .done .nil (.mk none [] [] .done .nil (.mk (some []) [] [3, 12, 13] .done .nil (.mk none [] [] .done .nil (.mk (some []) [] [3, 12, 13] .done .nil .nil)))))) .nil)) (.mk none [] [] .done .nil (.mk none [] [] .done (.mk (some [.tmp 102 (.leaf (.bool))]) [] [] .done .nil .nil) .nil)))) .nil)) .nil)) (.mk none [] [] .done (.mk (some [.tmp 124 (.leaf (.bool))]) [] [3, 4, 5, 6, 7, 8, 9, 10, 11, 12] (.take 0 (.take 1 (.take 2 (.take 3 (.take 4 (.split 4 (.take 5 (.take 6 (.take 7 (.split 7 (.take 8 (.take 9 (.take 10 (.take 11 (.take 12 (.take 13 (.take 14 (.take 15 (.take 16 (.take 17 (.take 18 (.take 19 (.take 20 (.take 21 .done)))))))))))))) (.take 8 (.take 9 (.take 10 (.take 11 (.take 12 (.take 13 (.split 13 (.take 14 (.take 15 (.take 16 (.take 17 (.take 18 (.take 19 (.take 20 (.take 21 .done)))))))) (.take 14 (.take 15 (.take 16 (.take 17 (.take 18 (.take 19 (.take 20 (.take 21 .done))))))))))))))))))) (.take 5 (.take 6 (.take 7 (.take 8 (.take 9 (.take 10 (.take 11 (.take 12 (.take 13 (.take 14 (.take 15 (.take 16 (.take 17 (.take 18 (.take 19 (.take 20 (.take 21 .done))))))))))))))))))))))) .nil .nil) .nil))) .nil) .nil)) .nil) .nil)) (.mk none [] [] .done (.mk none [] [] .done .nil (.mk (some []) [] [4, 8, 9, 10, 11] .done (.mk none [.tmp 16 (.leaf (.int .i64))] [4, 6, 8, 9, 10, 11] .done (.mk none [] [] .done .nil (.mk none [] [] .done (.mk none [] [] .done (.mk none [] [] .done (.mk (some [.tmp 155 (.leaf (.bool))]) [] [4, 6, 8, 9, 10, 11, 16] (.take 0 (.take 1 (.take 2 (.take 3 (.take 4 (.take 5 (.take 6 (.take 7 (.take 8 (.eff 9 (.take 10 (.take 11 (.split 11 (.take 12 (.take 13 (.take 14 (.take 15 (.take 16 (.take 17 (.take 18 (.take 19 (.take 20 (.take 21 (.take 22 (.take 23 .done)))))))))))) (.take 12 (.take 13 (.take 14 (.take 15 (.take 16 (.take 17 (.take 18 (.take 19 (.take 20 (.eff 21 (.take 22 (.take 23 .done))))))))))))))))))))))))) .nil .nil) .nil) .nil) .nil)) .nil) .nil)) (.mk none [] [] .done .nil (.mk none [] [] .done .nil (.mk none [] [] .done .nil (.mk none [] [] .done .nil (.mk none [] [] .done (.mk none [] [] .done (.mk (some [.tmp 176 (.leaf (.bool))]) [] [4, 8] .done .nil .nil) .nil) (.mk none [] [] .done (.mk none [] [] .done .nil (.mk none [] [] .done (.range [.leaf (.str), .leaf (.sl)] .nil .nil) .nil)) .nil)))))))))))))))

theorem is_winnowlaw11_MergeGroups (pairs1 : Sl) (most2 : Int) (K : Bool → World → Prop) (w : World) : WF Try.prog CS Try.f3 N_winnowlaw11_MergeGroups (.one (.leaf (.bool))) [.leaf (.sl pairs1), .leaf (.int .i64 most2)] K w = S_winnowlaw11_MergeGroups pairs1 most2 K w := by kernel_rfl
theorem go_winnowlaw11_MergeGroups (pairs1 : Sl) (most2 : Int) (K : Bool → World → Prop) (w : World) (h : S_winnowlaw11_MergeGroups pairs1 most2 K w) : callK Try.prog 3 [.leaf (.sl pairs1), .leaf (.int .i64 most2)] w (.one (.leaf (.bool))) K := by
  refine WF_sound (n := N_winnowlaw11_MergeGroups) CS_ok mixed Try.func3 ?_
  rw [is_winnowlaw11_MergeGroups]
  exact h

-- 11 winnow/winnowref11.Groups
def S_winnowref11_Groups (pairs1 : Sl) (K : Sl → World → Prop) (w : World) : Prop :=
  joinK [.sl] (fun k2 =>
    loopL [.sl, .int .i64] (fun l4 i5 w_6 again3 =>
      ifK (decide (i5 < (pairs1.len : Int)))
      (joinK [.bool] (fun k7 =>
          drawK w_6 fun D w_8 =>
          ifK ((l4.len : Int) == 0)
          (k7 true w_8)
          (ix l4 2 (w64 ((l4.len : Int) - 1)) fun b9 o10 =>
            ldD D w_8 .str b9 o10 fun s11 =>
            ix pairs1 2 i5 fun b12 o13 =>
            ldD D w_8 .str b12 o13 fun s14 =>
            k7 (!(s11 == s14)) w_8)) fun t2915 w_16 =>
        joinK [.sl, .int .i64] (fun k17 =>
          ifK t2915
          (ix pairs1 2 i5 fun b18 o19 =>
            ld w_16 .str b18 o19 fun s20 =>
            al w_16 35 [.str s20, .sl (⟨none, 0, 0⟩)] fun b21 w_22 =>
            ap w_22 35 2 40 [.str [], .sl (⟨none, 0, 0⟩)] l4 (⟨some (b21, 0), 1, 1⟩) fun a23 w_24 =>
            k17 a23 (w64 ((l4.len : Int) + 1)) w_24)
          (k17 l4 (l4.len : Int) w_16)) fun l25 n26 w_27 =>
        drawK w_27 fun D w_28 =>
        ix l25 2 (w64 (n26 - 1)) fun b29 o30 =>
        ldD D w_28 .sl b29 (o30 + 1) fun a31 =>
        ix pairs1 2 i5 fun b32 o33 =>
        ldD D w_28 .str b32 (o33 + 1) fun s34 =>
        al w_28 9 [.str s34] fun b35 w_36 =>
        Mod D w_28 w_36 ∧
        ap w_36 9 1 16 [.str []] a31 (⟨some (b35, 0), 1, 1⟩) fun a37 w_38 =>
        Mod D w_28 w_38 ∧
        ix l25 2 (w64 (n26 - 1)) fun b39 o40 =>
        st w_38 b39 (o40 + 1) [.sl a37] fun w_41 =>
        again3 l25 (w64 (i5 + 1)) w_41)
      (k2 l4 w_6)) [.sl (⟨none, 0, 0⟩), .int .i64 0] w) fun l42 w_43 =>
  K l42 w_43

def N_winnowref11_Groups : Ann := (.mk none [] [] .done .nil (.mk none [] [] .done .nil (.mk none [] [] .done (.mk none [] [] .done .nil (.mk (some [.tmp 3 (.leaf (.sl))]) [] [] .done (.mk none [.tmp 3 (.leaf (.sl)), .tmp 4 (.leaf (.int .i64))] [0] .done (.mk none [] [] .done .nil (.mk none [] [] .done (.mk none [] [] .done (.mk none [] [] .done .nil (.mk none [] [] .done (.mk none [] [] .done (.mk (some [.tmp 29 (.leaf (.bool))]) [] [0, 3, 4, 5] (.take 0 (.take 1 (.take 2 (.split 2 (.take 3 (.take 4 (.take 5 (.take 6 (.take 7 (.take 8 (.take 9 (.take 10 (.take 11 (.take 12 (.take 13 (.take 14 (.take 15 .done))))))))))))) (.take 3 (.take 4 (.take 5 (.take 6 (.take 7 (.take 8 (.take 9 (.take 10 (.take 11 (.take 12 (.take 13 (.take 14 (.take 15 .done))))))))))))))))) .nil .nil) (.mk (some [.tmp 3 (.leaf (.sl)), .tmp 5 (.leaf (.int .i64))]) [] [0, 4] .done .nil .nil)) (.mk none [] [] (.take 0 (.take 1 (.take 2 (.take 3 (.take 4 (.take 5 (.take 6 (.take 7 (.take 8 (.take 9 (.take 10 (.take 11 (.take 12 (.take 13 (.eff 14 (.eff 15 (.take 16 (.take 17 (.last 18))))))))))))))))))) .nil .nil))) .nil) .nil)) .nil) .nil)) .nil)))

theorem is_winnowref11_Groups (pairs1 : Sl) (K : Sl → World → Prop) (w : World) : WF Try.prog CS Try.f11 N_winnowref11_Groups (.one (.leaf (.sl))) [.leaf (.sl pairs1)] K w = S_winnowref11_Groups pairs1 K w := by kernel_rfl
theorem go_winnowref11_Groups (pairs1 : Sl) (K : Sl → World → Prop) (w : World) (h : S_winnowref11_Groups pairs1 K w) : callK Try.prog 11 [.leaf (.sl pairs1)] w (.one (.leaf (.sl))) K := by
  refine WF_sound (n := N_winnowref11_Groups) CS_ok mixed Try.func11 ?_
  rw [is_winnowref11_Groups]
  exact h

-- 12 winnow/merge.Groups
def S_merge_Groups (pairs1 : Value) (K : Value → World → Prop) (w : World) : Prop :=
  (∀ x ∈ [(pairs1 : Value)], isCell x = true) ∧
  al w 98 [.val pairs1] fun b2 w_3 =>
  K (.func (.func 39) #[] #[(LV.toV (.ptr (some (b2, 0))))]) w_3

def N_merge_Groups : Ann := .nil

theorem is_merge_Groups (pairs1 : Value) (K : Value → World → Prop) (w : World) : WF Try.prog CS Try.f12 N_merge_Groups (.one (.leaf (.val))) [.leaf (.val pairs1)] K w = S_merge_Groups pairs1 K w := by kernel_rfl
theorem go_merge_Groups (pairs1 : Value) (K : Value → World → Prop) (w : World) (h : S_merge_Groups pairs1 K w) : callK Try.prog 12 [.leaf (.val pairs1)] w (.one (.leaf (.val))) K := by
  refine WF_sound (n := N_merge_Groups) CS_ok mixed Try.func12 ?_
  rw [is_merge_Groups]
  exact h

-- 13 (*winnow/winnowlaw11.Pairs).all
def S_winnowlaw11_Pairs_all (p1 : PA) (yield2 : Value) (K : World → Prop) (w : World) : Prop :=
  dr p1 fun b3 o4 =>
  ld w (.int .i64) b3 (o4 + 1) fun n5 =>
  dr p1 fun b6 o7 =>
  st w b6 (o7 + 1) [.int .i64 (w64 (n5 + 1))] fun w_8 =>
  joinK [] (fun k9 =>
    loopL [.int .i64] (fun i11 w_12 again10 =>
      dr p1 fun b13 o14 =>
      ld w_12 .sl b13 o14 fun a15 =>
      ifK (decide (i11 < (a15.len : Int)))
      (dr p1 fun b16 o17 =>
        ld w_12 (.int .i64) b16 (o17 + 2) fun n18 =>
        dr p1 fun b19 o20 =>
        st w_12 b19 (o20 + 2) [.int .i64 (w64 (n18 + 1))] fun w_21 =>
        dr p1 fun b22 o23 =>
        ld w_21 .sl b22 o23 fun a24 =>
        ix a24 2 i11 fun b25 o26 =>
        ld w_21 .str b25 o26 fun s27 =>
        ld w_21 .str b25 (o26 + 1) fun s28 =>
        callV Try.prog yield2 [.agg [.str s27, .str s28]] w_21 (.one (.leaf (.bool))) fun c29 w_30 =>
        ifK (!c29)
        (K w_30)
        (again10 (w64 (i11 + 1)) w_30))
      (k9 w_12)) [.int .i64 0] w_8) fun w_31 =>
  K w_31

def N_winnowlaw11_Pairs_all : Ann := (.mk none [] [] .done .nil (.mk none [] [] .done .nil (.mk (some []) [] [] .done (.mk none [.tmp 4 (.leaf (.int .i64))] [0, 1] .done .nil .nil) .nil)))

theorem is_winnowlaw11_Pairs_all (p1 : PA) (yield2 : Value) (K : World → Prop) (w : World) : WF Try.prog CS Try.f13 N_winnowlaw11_Pairs_all (.tup []) [.leaf (.ptr p1), .leaf (.val yield2)] K w = S_winnowlaw11_Pairs_all p1 yield2 K w := by kernel_rfl
theorem go_winnowlaw11_Pairs_all (p1 : PA) (yield2 : Value) (K : World → Prop) (w : World) (h : S_winnowlaw11_Pairs_all p1 yield2 K w) : callK Try.prog 13 [.leaf (.ptr p1), .leaf (.val yield2)] w (.tup []) K := by
  refine WF_sound (n := N_winnowlaw11_Pairs_all) CS_ok mixed Try.func13 ?_
  rw [is_winnowlaw11_Pairs_all]
  exact h

-- 14 winnow/winnowlaw11.sameTexts
def S_winnowlaw11_sameTexts (a1 : Sl) (b2 : Sl) (K : Bool → World → Prop) (w : World) : Prop :=
  ifK ((a1.len : Int) != (b2.len : Int))
  (K false w)
  (joinK [] (fun k3 =>
      loopL [.int .i64] (fun i5 w_6 again4 =>
        ifK (decide (i5 < (a1.len : Int)))
        (drawK w_6 fun D w_7 =>
          ix a1 1 i5 fun b8 o9 =>
          ldD D w_7 .str b8 o9 fun s10 =>
          ix b2 1 i5 fun b11 o12 =>
          ldD D w_7 .str b11 o12 fun s13 =>
          ifK (!(s10 == s13))
          (K false w_7)
          (again4 (w64 (i5 + 1)) w_7))
        (k3 w_6)) [.int .i64 0] w) fun w_14 =>
    K true w_14)

def N_winnowlaw11_sameTexts : Ann := (.mk none [] [] .done .nil (.mk none [] [] .done .nil (.mk none [] [] .done (.mk none [] [] .done .nil (.mk (some []) [] [] .done (.mk none [.tmp 5 (.leaf (.int .i64))] [0, 1] .done (.mk none [] [] .done .nil (.mk none [] [] .done (.mk none [] [] .done (.mk none [] [] .done (.mk none [] [] (.take 0 (.take 1 (.take 2 (.take 3 (.take 4 (.take 5 (.take 6 (.take 7 (.take 8 .done))))))))) .nil .nil) .nil) .nil) .nil)) .nil) .nil)) .nil)))

theorem is_winnowlaw11_sameTexts (a1 : Sl) (b2 : Sl) (K : Bool → World → Prop) (w : World) : WF Try.prog CS Try.f14 N_winnowlaw11_sameTexts (.one (.leaf (.bool))) [.leaf (.sl a1), .leaf (.sl b2)] K w = S_winnowlaw11_sameTexts a1 b2 K w := by kernel_rfl
theorem go_winnowlaw11_sameTexts (a1 : Sl) (b2 : Sl) (K : Bool → World → Prop) (w : World) (h : S_winnowlaw11_sameTexts a1 b2 K w) : callK Try.prog 14 [.leaf (.sl a1), .leaf (.sl b2)] w (.one (.leaf (.bool))) K := by
  refine WF_sound (n := N_winnowlaw11_sameTexts) CS_ok mixed Try.func14 ?_
  rw [is_winnowlaw11_sameTexts]
  exact h

-- 15 winnow/winnowlaw11.fill
def S_winnowlaw11_fill (lists1 : Sl) (text2 : List UInt8) (K : World → Prop) (w : World) : Prop :=
  joinK [] (fun k3 =>
    loopL [.int .i64] (fun i5 w_6 again4 =>
      ifK (decide (i5 < (lists1.len : Int)))
      (joinK [] (fun k7 =>
          loopL [.int .i64] (fun k9 w_10 again8 =>
            ix lists1 1 i5 fun b11 o12 =>
            ld w_10 .sl b11 o12 fun a13 =>
            ifK (decide (k9 < (a13.len : Int)))
            (ix lists1 1 i5 fun b14 o15 =>
              ld w_10 .sl b14 o15 fun a16 =>
              ix a16 1 k9 fun b17 o18 =>
              st w_10 b17 o18 [.str text2] fun w_19 =>
              again8 (w64 (k9 + 1)) w_19)
            (k7 w_10)) [.int .i64 0] w_6) fun w_20 =>
        again4 (w64 (i5 + 1)) w_20)
      (k3 w_6)) [.int .i64 0] w) fun w_21 =>
  K w_21

def N_winnowlaw11_fill : Ann := (.mk none [] [] .done .nil (.mk (some []) [] [] .done (.mk none [.tmp 4 (.leaf (.int .i64))] [0, 1] .done (.mk none [] [] .done .nil (.mk none [] [] .done (.mk none [] [] .done (.mk none [] [] .done .nil (.mk (some []) [] [0, 1, 4] .done (.mk none [.tmp 5 (.leaf (.int .i64))] [0, 1, 4] .done .nil .nil) .nil)) .nil) .nil)) .nil) .nil))

theorem is_winnowlaw11_fill (lists1 : Sl) (text2 : List UInt8) (K : World → Prop) (w : World) : WF Try.prog CS Try.f15 N_winnowlaw11_fill (.tup []) [.leaf (.sl lists1), .leaf (.str text2)] K w = S_winnowlaw11_fill lists1 text2 K w := by kernel_rfl
theorem go_winnowlaw11_fill (lists1 : Sl) (text2 : List UInt8) (K : World → Prop) (w : World) (h : S_winnowlaw11_fill lists1 text2 K w) : callK Try.prog 15 [.leaf (.sl lists1), .leaf (.str text2)] w (.tup []) K := by
  refine WF_sound (n := N_winnowlaw11_fill) CS_ok mixed Try.func15 ?_
  rw [is_winnowlaw11_fill]
  exact h

-- 16 winnow/winnowlaw11.grow
def S_winnowlaw11_grow (lists1 : Sl) (K : World → Prop) (w : World) : Prop :=
  joinK [] (fun k2 =>
    loopL [.int .i64] (fun i4 w_5 again3 =>
      ifK (decide (i4 < (lists1.len : Int)))
      (ix lists1 1 i4 fun b6 o7 =>
        ld w_5 .sl b6 o7 fun a8 =>
        joinK [] (fun k9 =>
          loopL [.sl, .int .i64] (fun l11 k12 w_13 again10 =>
            ifK (decide (k12 < 64))
            (al w_13 9 [.str [98, 101, 104, 105, 110, 100]] fun b14 w_15 =>
              ap w_15 9 1 16 [.str []] l11 (⟨some (b14, 0), 1, 1⟩) fun a16 w_17 =>
              again10 a16 (w64 (k12 + 1)) w_17)
            (k9 w_13)) [.sl a8, .int .i64 0] w_5) fun w_18 =>
        again3 (w64 (i4 + 1)) w_18)
      (k2 w_5)) [.int .i64 0] w) fun w_19 =>
  K w_19

def N_winnowlaw11_grow : Ann := (.mk none [] [] .done .nil (.mk (some []) [] [] .done (.mk none [.tmp 2 (.leaf (.int .i64))] [0] .done (.mk none [] [] .done .nil (.mk none [] [] .done (.mk none [] [] .done (.mk none [] [] .done .nil (.mk none [] [] .done .nil (.mk (some []) [] [0, 2] .done (.mk none [.tmp 3 (.leaf (.sl)), .tmp 4 (.leaf (.int .i64))] [0, 2] .done .nil .nil) .nil))) .nil) .nil)) .nil) .nil))

theorem is_winnowlaw11_grow (lists1 : Sl) (K : World → Prop) (w : World) : WF Try.prog CS Try.f16 N_winnowlaw11_grow (.tup []) [.leaf (.sl lists1)] K w = S_winnowlaw11_grow lists1 K w := by kernel_rfl
theorem go_winnowlaw11_grow (lists1 : Sl) (K : World → Prop) (w : World) (h : S_winnowlaw11_grow lists1 K w) : callK Try.prog 16 [.leaf (.sl lists1)] w (.tup []) K := by
  refine WF_sound (n := N_winnowlaw11_grow) CS_ok mixed Try.func16 ?_
  rw [is_winnowlaw11_grow]
  exact h

-- 17 winnow/winnowlaw11.filled
def S_winnowlaw11_filled (lists1 : Sl) (text2 : List UInt8) (K : Bool → World → Prop) (w : World) : Prop :=
  joinK [] (fun k3 =>
    loopL [.int .i64] (fun i5 w_6 again4 =>
      ifK (decide (i5 < (lists1.len : Int)))
      (joinK [] (fun k7 =>
          loopL [.int .i64] (fun k9 w_10 again8 =>
            ix lists1 1 i5 fun b11 o12 =>
            ld w_10 .sl b11 o12 fun a13 =>
            ifK (decide (k9 < (a13.len : Int)))
            (ix lists1 1 i5 fun b14 o15 =>
              ld w_10 .sl b14 o15 fun a16 =>
              ix a16 1 k9 fun b17 o18 =>
              ld w_10 .str b17 o18 fun s19 =>
              ifK (!(s19 == text2))
              (K false w_10)
              (again8 (w64 (k9 + 1)) w_10))
            (k7 w_10)) [.int .i64 0] w_6) fun w_20 =>
        again4 (w64 (i5 + 1)) w_20)
      (k3 w_6)) [.int .i64 0] w) fun w_21 =>
  K true w_21

def N_winnowlaw11_filled : Ann := (.mk none [] [] .done .nil (.mk none [] [] .done (.mk none [] [] .done .nil (.mk (some []) [] [] .done (.mk none [.tmp 5 (.leaf (.int .i64))] [0, 1] .done (.mk none [] [] .done .nil (.mk none [] [] .done (.mk none [] [] .done (.mk none [] [] .done .nil (.mk (some []) [] [0, 1, 5] .done (.mk none [.tmp 6 (.leaf (.int .i64))] [0, 1, 5] .done .nil .nil) .nil)) .nil) .nil)) .nil) .nil)) .nil))

theorem is_winnowlaw11_filled (lists1 : Sl) (text2 : List UInt8) (K : Bool → World → Prop) (w : World) : WF Try.prog CS Try.f17 N_winnowlaw11_filled (.one (.leaf (.bool))) [.leaf (.sl lists1), .leaf (.str text2)] K w = S_winnowlaw11_filled lists1 text2 K w := by kernel_rfl
theorem go_winnowlaw11_filled (lists1 : Sl) (text2 : List UInt8) (K : Bool → World → Prop) (w : World) (h : S_winnowlaw11_filled lists1 text2 K w) : callK Try.prog 17 [.leaf (.sl lists1), .leaf (.str text2)] w (.one (.leaf (.bool))) K := by
  refine WF_sound (n := N_winnowlaw11_filled) CS_ok mixed Try.func17 ?_
  rw [is_winnowlaw11_filled]
  exact h

-- 39 winnow/merge.Groups$1
def S_merge_Groups_1 (yield1 : Value) (t1B2 : Nat) (t1O3 : Nat) (K : World → Prop) (w : World) : Prop :=
  (∀ x ∈ [(yield1 : Value)], isCell x = true) ∧
  al w 99 [.val yield1] fun b4 w_5 =>
  ld w_5 .val t1B2 t1O3 fun v6 =>
  nilF v6 fun c7 =>
  ifK c7
  (K w_5)
  (al w_5 9 [.str []] fun b8 w_9 =>
    al w_9 4 [.lit false] fun b10 w_11 =>
    st w_11 b8 0 [.str []] fun w_12 =>
    st w_12 b10 0 [.lit false] fun w_13 =>
    al w_13 33 [.sl (⟨none, 0, 0⟩)] fun b14 w_15 =>
    ld w_15 .val t1B2 t1O3 fun v16 =>
    rangeK Try.prog [.agg [.str, .str]] v16 none w_15 (fun rc26 x_0_24 x_1_25 w_18 beg21 next22 leave23 =>
      al w_18 97 [.str [], .str []] fun b27 w_28 =>
      st w_28 b27 0 [.str x_0_24, .str x_1_25] fun w_29 =>
      beg21 w_29 fun w_30 =>
      joinK [.bool] (fun k31 =>
        ld w_30 .bool b10 0 fun c32 =>
        ifK c32
        (ld w_30 .str b27 0 fun s33 =>
          ld w_30 .str b8 0 fun s34 =>
          k31 (!(s33 == s34)) w_30)
        (k31 false w_30)) fun t1735 w_36 =>
      joinK [] (fun k37 =>
        ifK t1735
        (ld w_36 .val b4 0 fun v38 =>
          ld w_36 .str b8 0 fun s39 =>
          ld w_36 .sl b14 0 fun a40 =>
          callV Try.prog v38 [.leaf (.str s39), .leaf (.sl a40)] w_36 (.one (.leaf (.bool))) fun c41 w_42 =>
          ifK (!c41)
          (leave23 0 w_42)
          (st w_42 b14 0 [.sl (⟨none, 0, 0⟩)] fun w_43 =>
            k37 w_43))
        (k37 w_36)) fun w_44 =>
      ld w_44 .str b27 0 fun s45 =>
      st w_44 b8 0 [.str s45] fun w_46 =>
      st w_46 b10 0 [.lit true] fun w_47 =>
      ld w_47 .sl b14 0 fun a48 =>
      ld w_47 .str b27 1 fun s49 =>
      al w_47 9 [.str s49] fun b50 w_51 =>
      ap w_51 9 1 16 [.str []] a48 (⟨some (b50, 0), 1, 1⟩) fun a52 w_53 =>
      st w_53 b14 0 [.sl a52] fun w_54 =>
      next22 w_54) (  fun r55 w_56 =>
      ld w_56 .bool b10 0 fun c57 =>
      joinK [] (fun k58 =>
        ifK c57
        (ld w_56 .val b4 0 fun v59 =>
          ld w_56 .str b8 0 fun s60 =>
          ld w_56 .sl b14 0 fun a61 =>
          callV Try.prog v59 [.leaf (.str s60), .leaf (.sl a61)] w_56 (.one (.leaf (.bool))) fun c62 w_63 =>
          k58 w_63)
        (k58 w_56)) fun w_64 =>
      closeK (r55 :: []) w_64 fun w_65 =>
      K w_65) [  fun r66 w_67 =>
      closeK (r66 :: []) w_67 fun w_68 =>
      K w_68])

def N_merge_Groups_1 : Ann := (.mk none [] [] .done .nil (.mk none [] [] .done .nil (.mk none [] [] .done .nil (.mk none [] [] .done .nil (.mk none [] [] .done (.mk none [] [] .done .nil (.mk none [] [] .done (.range [.agg [.str, .str]] .nil (.mk none [] [] .done (.mk none [] [] .done (.mk none [] [] .done (.mk (some [.tmp 17 (.leaf (.bool))]) [] [2, 3, 4, 5, 6] .done .nil .nil) (.mk (some []) [] [3, 4, 5, 6] .done .nil .nil)) .nil) .nil)) .nil)) (.mk none [] [] .done .nil (.mk (some []) [] [] .done .nil .nil)))))))

theorem is_merge_Groups_1 (yield1 : Value) (t1B2 : Nat) (t1O3 : Nat) (K : World → Prop) (w : World) : WF Try.prog CS Try.f39 N_merge_Groups_1 (.tup []) [.leaf (.val yield1), .leaf (.ptr (some (t1B2, t1O3)))] K w = S_merge_Groups_1 yield1 t1B2 t1O3 K w := by kernel_rfl
theorem go_merge_Groups_1 (yield1 : Value) (t1B2 : Nat) (t1O3 : Nat) (K : World → Prop) (w : World) (h : S_merge_Groups_1 yield1 t1B2 t1O3 K w) : callK Try.prog 39 [.leaf (.val yield1), .leaf (.ptr (some (t1B2, t1O3)))] w (.tup []) K := by
  refine WF_sound (n := N_merge_Groups_1) CS_ok mixed Try.func39 ?_
  rw [is_merge_Groups_1]
  exact h


end Go.Proofs.Ytfhojgammfkabaa
