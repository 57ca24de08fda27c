/- Records. -/
import Derived.Test.YtfhojgammfkabaaS0
namespace Go.Proofs.Ytfhojgammfkabaa
open Go.Vw
-- 10 winnow/winnowlaw11.MergeRecords
def S_winnowlaw11_MergeRecords (lists1 : Sl) (K : Bool → World → Prop) (w : World) : Prop :=
  joinK [.sl] (fun k2 =>
    loopL [.sl, .int .i64] (fun g4 i5 w_6 again3 =>
      ifK (decide (i5 < (lists1.len : Int)))
      (ix lists1 1 i5 fun b7 o8 =>
        ld w_6 .sl b7 o8 fun a9 =>
        ap w_6 91 3 40 [.int .i64 0, .str [], .str []] (⟨none, 0, 0⟩) a9 fun a10 w_11 =>
        al w_11 91 [.int .i64 (-9), .str [], .str []] fun b12 w_13 =>
        ap w_13 91 3 40 [.int .i64 0, .str [], .str []] a10 (⟨some (b12, 0), 1, 1⟩) fun a14 w_15 =>
        ix lists1 1 i5 fun b16 o17 =>
        ld w_15 .sl b16 o17 fun a18 =>
        slx a14 3 none (some (a18.len : Int)) none fun s19 =>
        al w_15 89 [.sl s19] fun b20 w_21 =>
        ap w_21 89 1 24 [.sl (⟨none, 0, 0⟩)] g4 (⟨some (b20, 0), 1, 1⟩) fun a22 w_23 =>
        again3 a22 (w64 (i5 + 1)) w_23)
      (k2 g4 w_6)) [.sl (⟨none, 0, 0⟩), .int .i64 0] w) fun g24 w_25 =>
  al w_25 91 [.int .i64 (-6), .str [], .str []] fun b26 w_27 =>
  al w_27 89 [.sl (⟨some (b26, 0), 1, 1⟩)] fun b28 w_29 =>
  ap w_29 89 1 24 [.sl (⟨none, 0, 0⟩)] g24 (⟨some (b28, 0), 1, 1⟩) fun a30 w_31 =>
  slx a30 1 (some (lists1.len : Int)) none none fun s32 =>
  slx a30 1 none (some (lists1.len : Int)) none fun s33 =>
  callK Try.prog 36 [.leaf (.sl s33)] w_31 (.tup [.leaf (.sl), .leaf (.int .i64)]) fun a34 n35 w_36 =>
  callK Try.prog 36 [.leaf (.sl s33)] w_36 (.tup [.leaf (.sl), .leaf (.int .i64)]) fun a37 n38 w_39 =>
  callK Try.prog 37 [.leaf (.sl lists1)] w_39 (.tup [.leaf (.sl), .leaf (.int .i64)]) fun a40 n41 w_42 =>
  joinK [.bool] (fun k43 =>
    ifK (n35 != n41)
    (k43 true w_42)
    (ifK (n38 != n41)
      (k43 true w_42)
      (callK Try.prog 38 [.leaf (.sl a34), .leaf (.sl a40)] w_42 (.one (.leaf (.bool))) fun c44 w_45 =>
        k43 (!c44) w_45))) fun t8846 w_47 =>
  ifK t8846
  (K false w_47)
  (joinK [] (fun k48 =>
      loopL [.int .i64] (fun i50 w_51 again49 =>
        ifK (decide (i50 < (a34.len : Int)))
        (ix a34 3 i50 fun b52 o53 =>
          st w_51 b52 o53 [.int .i64 (-7), .str [], .str []] fun w_54 =>
          again49 (w64 (i50 + 1)) w_54)
        (k48 w_51)) [.int .i64 0] w_47) fun w_55 =>
    joinK [] (fun k56 =>
      loopL [.sl, .int .i64] (fun a58 i59 w_60 again57 =>
        ifK (decide (i59 < 64))
        (al w_60 91 [.int .i64 (-8), .str [], .str []] fun b61 w_62 =>
          ap w_62 91 3 40 [.int .i64 0, .str [], .str []] a58 (⟨some (b61, 0), 1, 1⟩) fun a63 w_64 =>
          again57 a63 (w64 (i59 + 1)) w_64)
        (k56 w_60)) [.sl a34, .int .i64 0] w_55) fun w_65 =>
    joinK [] (fun k66 =>
      loopL [.int .i64] (fun i68 w_69 again67 =>
        ifK (decide (i68 < (lists1.len : Int)))
        (drawK w_69 fun D w_70 =>
          ix s33 1 i68 fun b71 o72 =>
          ldD D w_70 .sl b71 o72 fun a73 =>
          ix lists1 1 i68 fun b74 o75 =>
          ldD D w_70 .sl b74 o75 fun a76 =>
          slx a73 3 none (some (w64 ((a76.len : Int) + 1))) none fun s77 =>
          joinK [.bool] (fun k78 =>
            drawK w_70 fun D w_79 =>
            ix s33 1 i68 fun b80 o81 =>
            ldD D w_79 .sl b80 o81 fun a82 =>
            ix lists1 1 i68 fun b83 o84 =>
            ldD D w_79 .sl b83 o84 fun a85 =>
            callK Try.prog 38 [.leaf (.sl a82), .leaf (.sl a85)] w_79 (.one (.leaf (.bool))) fun c86 w_87 =>
            Mod D w_79 w_87 ∧
            ifK (!c86)
            (k78 true w_87)
            (ix lists1 1 i68 fun b88 o89 =>
              ldD D w_79 .sl b88 o89 fun a90 =>
              ix s77 3 (a90.len : Int) fun b91 o92 =>
              ldD D w_79 (.int .i64) b91 o92 fun n93 =>
              k78 (n93 != (-9)) w_87)) fun t14594 w_95 =>
          ifK t14594
          (K false w_95)
          (again67 (w64 (i68 + 1)) w_95))
        (k66 w_69)) [.int .i64 0] w_65) fun w_96 =>
    joinK [.bool] (fun k97 =>
      ix s32 1 0 fun b98 o99 =>
      ld w_96 .sl b98 o99 fun a100 =>
      ifK ((a100.len : Int) != 1)
      (k97 true w_96)
      (ix s32 1 0 fun b101 o102 =>
        ld w_96 .sl b101 o102 fun a103 =>
        ix a103 3 0 fun b104 o105 =>
        ld w_96 (.int .i64) b104 o105 fun n106 =>
        k97 (n106 != (-6)) w_96)) fun t159107 w_108 =>
    ifK t159107
    (K false w_108)
    (callK Try.prog 38 [.leaf (.sl a37), .leaf (.sl a40)] w_108 (.one (.leaf (.bool))) fun c109 w_110 =>
      ifK (!c109)
      (K false w_110)
      (joinK [.sl] (fun k111 =>
          loopL [.sl, .int .i64] (fun now113 i114 w_115 again112 =>
            ifK (decide (i114 < (s33.len : Int)))
            (joinK [] (fun k116 =>
                loopL [.int .i64] (fun k118 w_119 again117 =>
                  ix s33 1 i114 fun b120 o121 =>
                  ld w_119 .sl b120 o121 fun a122 =>
                  ifK (decide (k118 < (a122.len : Int)))
                  (drawK w_119 fun D w_123 =>
                    ix s33 1 i114 fun b124 o125 =>
                    ldD D w_123 .sl b124 o125 fun a126 =>
                    ix s33 1 i114 fun b127 o128 =>
                    ldD D w_123 .sl b127 o128 fun a129 =>
                    ix a129 3 k118 fun b130 o131 =>
                    ldD D w_123 .str b130 (o131 + 2) fun s132 =>
                    s132.length + [120].length < 2 ^ 62 ∧
                    ix a126 3 k118 fun b133 o134 =>
                    st w_123 b133 (o134 + 2) [.str (s132 ++ [120])] fun w_135 =>
                    drawK w_135 fun D w_136 =>
                    ix s33 1 i114 fun b137 o138 =>
                    ldD D w_136 .sl b137 o138 fun a139 =>
                    ix s33 1 i114 fun b140 o141 =>
                    ldD D w_136 .sl b140 o141 fun a142 =>
                    ix a142 3 k118 fun b143 o144 =>
                    ldD D w_136 (.int .i64) b143 o144 fun n145 =>
                    ix a139 3 k118 fun b146 o147 =>
                    st w_136 b146 o147 [.int .i64 (w64 (n145.tdiv 2))] fun w_148 =>
                    again117 (w64 (k118 + 1)) w_148)
                  (k116 w_119)) [.int .i64 0] w_115) fun w_149 =>
              ix s33 1 i114 fun b150 o151 =>
              ld w_149 .sl b150 o151 fun a152 =>
              ap w_149 91 3 40 [.int .i64 0, .str [], .str []] (⟨none, 0, 0⟩) a152 fun a153 w_154 =>
              al w_154 89 [.sl a153] fun b155 w_156 =>
              ap w_156 89 1 24 [.sl (⟨none, 0, 0⟩)] now113 (⟨some (b155, 0), 1, 1⟩) fun a157 w_158 =>
              again112 a157 (w64 (i114 + 1)) w_158)
            (k111 now113 w_115)) [.sl (⟨none, 0, 0⟩), .int .i64 0] w_110) fun now159 w_160 =>
        callK Try.prog 36 [.leaf (.sl s33)] w_160 (.tup [.leaf (.sl), .leaf (.int .i64)]) fun a161 n162 w_163 =>
        callK Try.prog 37 [.leaf (.sl now159)] w_163 (.tup [.leaf (.sl), .leaf (.int .i64)]) fun a164 n165 w_166 =>
        joinK [.bool] (fun k167 =>
          ifK (n162 == n165)
          (callK Try.prog 38 [.leaf (.sl a161), .leaf (.sl a164)] w_166 (.one (.leaf (.bool))) fun c168 w_169 =>
            k167 c168 w_169)
          (k167 false w_166)) fun t2170 w_171 =>
        K t2170 w_171)))

def N_winnowlaw11_MergeRecords : Ann := (.mk none [] [] .done .nil (.mk none [] [] .done .nil (.mk none [] [] .done (.mk none [] [] .done .nil (.mk (some [.tmp 3 (.leaf (.sl))]) [] [0] .done (.mk none [.tmp 3 (.leaf (.sl)), .tmp 4 (.leaf (.int .i64))] [0] .done .nil .nil) .nil)) (.mk none [] [] .done .nil (.mk none [] [] .done .nil (.mk none [] [] .done .nil (.mk none [] [] .done .nil (.mk none [] [] .done .nil (.mk none [] [] .done .nil (.mk none [] [] .done (.mk none [] [] .done (.mk (some [.tmp 88 (.leaf (.bool))]) [] [0, 3, 6, 7, 9, 11] .done .nil .nil) .nil) (.mk none [] [] .done (.mk none [] [] .done .nil (.mk (some []) [] [0, 3, 6, 7, 9, 11] .done (.mk none [.tmp 13 (.leaf (.int .i64))] [0, 3, 6, 7, 9, 11] .done .nil .nil) .nil)) (.mk none [] [] .done (.mk none [] [] .done .nil (.mk (some []) [] [0, 3, 6, 9, 11] .done (.mk none [.tmp 7 (.leaf (.sl)), .tmp 14 (.leaf (.int .i64))] [0, 3, 6, 9, 11] .done .nil .nil) .nil)) (.mk none [] [] .done (.mk none [] [] .done .nil (.mk (some []) [] [3, 6, 9, 11] .done (.mk none [.tmp 15 (.leaf (.int .i64))] [0, 3, 6, 9, 11] .done (.mk none [] [] .done .nil (.mk none [] [] .done (.mk none [] [] .done (.mk none [] [] .done (.mk none [] [] (.take 0 (.take 1 (.take 2 (.take 3 (.take 4 (.take 5 (.take 6 (.take 7 (.take 8 (.take 9 (.take 10 (.take 11 .done)))))))))))) .nil .nil) (.mk none [] [] .done (.mk (some [.tmp 145 (.leaf (.bool))]) [] [0, 3, 6, 9, 11, 15] (.take 0 (.take 1 (.take 2 (.take 3 (.take 4 (.take 5 (.take 6 (.take 7 (.eff 8 (.take 9 (.take 10 (.split 10 (.take 11 (.take 12 (.take 13 (.take 14 (.take 15 (.take 16 (.take 17 (.take 18 (.take 19 (.take 20 (.take 21 .done))))))))))) (.take 11 (.take 12 (.take 13 (.take 14 (.take 15 (.take 16 (.take 17 (.take 18 (.take 19 (.take 20 (.take 21 .done))))))))))))))))))))))) .nil .nil) .nil)) .nil) .nil)) .nil) .nil)) (.mk none [] [] .done (.mk none [] [] .done (.mk (some [.tmp 159 (.leaf (.bool))]) [] [3, 9, 11] .done .nil .nil) .nil) (.mk none [] [] .done .nil (.mk none [] [] .done .nil (.mk none [] [] .done (.mk none [] [] .done .nil (.mk (some [.tmp 17 (.leaf (.sl))]) [] [3] .done (.mk none [.tmp 17 (.leaf (.sl)), .tmp 18 (.leaf (.int .i64))] [3] .done (.mk none [] [] .done .nil (.mk none [] [] .done (.mk none [] [] .done (.mk none [] [] .done (.mk none [] [] .done .nil (.mk (some []) [] [3, 17, 18] .done (.mk none [.tmp 19 (.leaf (.int .i64))] [3, 17, 18] .done (.mk none [] [] .done .nil (.mk none [] [] .done (.mk none [] [] .done (.mk none [] [] .done (.mk none [] [] (.take 0 (.take 1 (.take 2 (.take 3 (.take 4 (.take 5 (.take 6 (.take 7 (.take 8 (.take 9 (.take 10 (.take 11 (.take 12 (.take 13 (.take 14 (.take 15 (.last 16))))))))))))))))) .nil .nil) (.mk none [] [] (.take 0 (.take 1 (.take 2 (.take 3 (.take 4 (.take 5 (.take 6 (.take 7 (.take 8 (.take 9 (.take 10 (.take 11 (.take 12 (.take 13 (.take 14 (.take 15 (.last 16))))))))))))))))) .nil .nil)) .nil) .nil)) .nil) .nil)) .nil) .nil) .nil)) .nil) .nil)) (.mk none [] [] .done .nil (.mk none [] [] .done .nil (.mk none [] [] .done (.mk (some [.tmp 2 (.leaf (.bool))]) [] [] .done .nil .nil) .nil))))))))))))))))))))

theorem is_winnowlaw11_MergeRecords (lists1 : Sl) (K : Bool → World → Prop) (w : World) : WF Try.prog CS Try.f10 N_winnowlaw11_MergeRecords (.one (.leaf (.bool))) [.leaf (.sl lists1)] K w = S_winnowlaw11_MergeRecords lists1 K w := by kernel_rfl
theorem go_winnowlaw11_MergeRecords (lists1 : Sl) (K : Bool → World → Prop) (w : World) (h : S_winnowlaw11_MergeRecords lists1 K w) : callK Try.prog 10 [.leaf (.sl lists1)] w (.one (.leaf (.bool))) K := by
  refine WF_sound (n := N_winnowlaw11_MergeRecords) CS_ok mixed Try.func10 ?_
  rw [is_winnowlaw11_MergeRecords]
  exact h

-- 36 winnow/merge.Records
def S_merge_Records (lists1 : Sl) (K : Sl → Int → World → Prop) (w : World) : Prop :=
  joinK [.sl, .int .i64] (fun k2 =>
    loopL [.sl, .int .i64, .int .i64] (fun from_4 n5 t166 w_7 again3 =>
      ifK (decide (t166 < (lists1.len : Int)))
      (ix lists1 1 t166 fun b8 o9 =>
        ld w_7 .sl b8 o9 fun a10 =>
        al w_7 89 [.sl (⟨none, 0, 0⟩)] fun b11 w_12 =>
        st w_12 b11 0 [.sl a10] fun w_13 =>
        ld w_13 .sl b11 0 fun a14 =>
        al w_13 3 [.int .i64 0] fun b15 w_16 =>
        st w_16 b15 0 [.int .i64 0] fun w_17 =>
        (∀ x ∈ [(.func (.func 50) #[] #[(LV.toV (.ptr (some (b15, 0)))), (LV.toV (.ptr (some (b11, 0))))] : Value)], isCell x = true) ∧
        al w_17 114 [.val (.func (.func 50) #[] #[(LV.toV (.ptr (some (b15, 0)))), (LV.toV (.ptr (some (b11, 0))))])] fun b18 w_19 =>
        ap w_19 114 1 8 [.val .nilFunc] from_4 (⟨some (b18, 0), 1, 1⟩) fun a20 w_21 =>
        again3 a20 (w64 (n5 + (a14.len : Int))) (w64 (t166 + 1)) w_21)
      (k2 from_4 n5 w_7)) [.sl (⟨none, 0, 0⟩), .int .i64 0, .int .i64 0] w) fun from_22 n23 w_24 =>
  callK Try.prog 51 [.leaf (.val (.func (.func 52) #[] #[])), .leaf (.sl from_22)] w_24 (.tup [.leaf (.ptr), .leaf (.int .i64)]) fun p25 n26 w_27 =>
  ifK (n26 != 0)
  (K (⟨none, 0, 0⟩) n26 w_27)
  (mk w_27 91 40 [.int .i64 0, .str [], .str []] 0 n23 fun a28 w_29 =>
    al w_29 89 [.sl (⟨none, 0, 0⟩)] fun b30 w_31 =>
    st w_31 b30 0 [.sl a28] fun w_32 =>
    callK Try.prog 53 [.leaf (.ptr p25)] w_32 (.one (.leaf (.val))) fun v33 w_34 =>
    rangeK Try.prog [.agg [.int .i64, .str, .str]] v33 none w_34 (fun rc45 x_0_42 x_1_43 x_2_44 w_36 beg39 next40 leave41 =>
      al w_36 91 [.int .i64 0, .str [], .str []] fun b46 w_47 =>
      st w_47 b46 0 [.int .i64 x_0_42, .str x_1_43, .str x_2_44] fun w_48 =>
      beg39 w_48 fun w_49 =>
      ld w_49 .sl b30 0 fun a50 =>
      ld w_49 (.int .i64) b46 0 fun n51 =>
      ld w_49 .str b46 1 fun s52 =>
      ld w_49 .str b46 2 fun s53 =>
      al w_49 91 [.int .i64 n51, .str s52, .str s53] fun b54 w_55 =>
      ap w_55 91 3 40 [.int .i64 0, .str [], .str []] a50 (⟨some (b54, 0), 1, 1⟩) fun a56 w_57 =>
      st w_57 b30 0 [.sl a56] fun w_58 =>
      next40 w_58) (  fun r59 w_60 =>
      callK Try.prog 54 [.leaf (.ptr p25)] w_60 (.one (.leaf (.int .i64))) fun n61 w_62 =>
      ifK (n61 != 0)
      (closeK (r59 :: []) w_62 fun w_63 =>
        K (⟨none, 0, 0⟩) n61 w_63)
      (ld w_62 .sl b30 0 fun a64 =>
        closeK (r59 :: []) w_62 fun w_65 =>
        K a64 0 w_65)) [])

def N_merge_Records : Ann := (.mk none [] [] .done .nil (.mk none [] [] .done .nil (.mk none [] [] .done .nil (.mk none [] [] .done (.mk none [] [] .done .nil (.mk (some [.tmp 4 (.leaf (.sl)), .tmp 5 (.leaf (.int .i64))]) [] [2, 3] .done (.mk none [.tmp 4 (.leaf (.sl)), .tmp 5 (.leaf (.int .i64)), .tmp 16 (.leaf (.int .i64))] [2, 3, 14, 15] .done .nil .nil) .nil)) (.mk none [] [] .done .nil (.mk none [] [] .done .nil (.mk none [] [] .done .nil (.mk none [] [] .done (.mk none [] [] .done .nil (.mk none [] [] .done (.range [.agg [.int .i64, .str, .str]] .nil .nil) .nil)) .nil))))))))

theorem is_merge_Records (lists1 : Sl) (K : Sl → Int → World → Prop) (w : World) : WF Try.prog CS Try.f36 N_merge_Records (.tup [.leaf (.sl), .leaf (.int .i64)]) [.leaf (.sl lists1)] K w = S_merge_Records lists1 K w := by kernel_rfl
theorem go_merge_Records (lists1 : Sl) (K : Sl → Int → World → Prop) (w : World) (h : S_merge_Records lists1 K w) : callK Try.prog 36 [.leaf (.sl lists1)] w (.tup [.leaf (.sl), .leaf (.int .i64)]) K := by
  refine WF_sound (n := N_merge_Records) CS_ok mixed Try.func36 ?_
  rw [is_merge_Records]
  exact h

-- 37 winnow/winnowref11.Records
def S_winnowref11_Records (lists1 : Sl) (K : Sl → Int → World → Prop) (w : World) : Prop :=
  ifK (decide (64 < (lists1.len : Int)))
  (K (⟨none, 0, 0⟩) 3 w)
  (joinK [.sl] (fun k2 =>
      loopL [.sl, .int .i64] (fun out4 i5 w_6 again3 =>
        ifK (decide (i5 < (lists1.len : Int)))
        (joinK [.sl] (fun k7 =>
            loopL [.sl, .int .i64] (fun out9 k10 w_11 again8 =>
              ix lists1 1 i5 fun b12 o13 =>
              ld w_11 .sl b12 o13 fun a14 =>
              ifK (decide (k10 < (a14.len : Int)))
              (joinK [.bool] (fun k15 =>
                  drawK w_11 fun D w_16 =>
                  ifK (decide (0 < k10))
                  (ix lists1 1 i5 fun b17 o18 =>
                    ldD D w_16 .sl b17 o18 fun a19 =>
                    ix a19 3 k10 fun b20 o21 =>
                    ldD D w_16 (.int .i64) b20 o21 fun n22 =>
                    ldD D w_16 .str b20 (o21 + 1) fun s23 =>
                    ldD D w_16 .str b20 (o21 + 2) fun s24 =>
                    ix lists1 1 i5 fun b25 o26 =>
                    ldD D w_16 .sl b25 o26 fun a27 =>
                    ix a27 3 (w64 (k10 - 1)) fun b28 o29 =>
                    ldD D w_16 (.int .i64) b28 o29 fun n30 =>
                    ldD D w_16 .str b28 (o29 + 1) fun s31 =>
                    ldD D w_16 .str b28 (o29 + 2) fun s32 =>
                    callK Try.prog 55 [.agg [.int .i64 n22, .str s23, .str s24], .agg [.int .i64 n30, .str s31, .str s32]] w_16 (.one (.leaf (.bool))) fun c33 w_34 =>
                    Mod D w_16 w_34 ∧
                    k15 c33 w_34)
                  (k15 false w_16)) fun t4735 w_36 =>
                ifK t4735
                (K (⟨none, 0, 0⟩) 61 w_36)
                (ix lists1 1 i5 fun b37 o38 =>
                  ld w_36 .sl b37 o38 fun a39 =>
                  ix a39 3 k10 fun b40 o41 =>
                  ld w_36 (.int .i64) b40 o41 fun n42 =>
                  ld w_36 .str b40 (o41 + 1) fun s43 =>
                  ld w_36 .str b40 (o41 + 2) fun s44 =>
                  al w_36 91 [.int .i64 0, .str [], .str []] fun b45 w_46 =>
                  st w_46 b45 0 [.int .i64 n42, .str s43, .str s44] fun w_47 =>
                  joinK [.int .i64] (fun k48 =>
                    loopL [.int .i64] (fun n50 w_51 again49 =>
                      joinK [.bool] (fun k52 =>
                        drawK w_51 fun D w_53 =>
                        ifK (decide (0 < n50))
                        (ldD D w_53 (.int .i64) b45 0 fun n54 =>
                          ldD D w_53 .str b45 1 fun s55 =>
                          ldD D w_53 .str b45 2 fun s56 =>
                          ix out9 3 (w64 (n50 - 1)) fun b57 o58 =>
                          ldD D w_53 (.int .i64) b57 o58 fun n59 =>
                          ldD D w_53 .str b57 (o58 + 1) fun s60 =>
                          ldD D w_53 .str b57 (o58 + 2) fun s61 =>
                          callK Try.prog 55 [.agg [.int .i64 n54, .str s55, .str s56], .agg [.int .i64 n59, .str s60, .str s61]] w_53 (.one (.leaf (.bool))) fun c62 w_63 =>
                          Mod D w_53 w_63 ∧
                          k52 c62 w_63)
                        (k52 false w_53)) fun t6764 w_65 =>
                      ifK t6764
                      (again49 (w64 (n50 - 1)) w_65)
                      (k48 n50 w_65)) [.int .i64 (out9.len : Int)] w_47) fun n66 w_67 =>
                  slx out9 3 none (some n66) none fun s68 =>
                  ap w_67 91 3 40 [.int .i64 0, .str [], .str []] (⟨none, 0, 0⟩) s68 fun a69 w_70 =>
                  ld w_70 (.int .i64) b45 0 fun n71 =>
                  ld w_70 .str b45 1 fun s72 =>
                  ld w_70 .str b45 2 fun s73 =>
                  al w_70 91 [.int .i64 n71, .str s72, .str s73] fun b74 w_75 =>
                  ap w_75 91 3 40 [.int .i64 0, .str [], .str []] a69 (⟨some (b74, 0), 1, 1⟩) fun a76 w_77 =>
                  slx out9 3 (some n66) none none fun s78 =>
                  ap w_77 91 3 40 [.int .i64 0, .str [], .str []] a76 s78 fun a79 w_80 =>
                  again8 a79 (w64 (k10 + 1)) w_80))
              (k7 out9 w_11)) [.sl out4, .int .i64 0] w_6) fun out81 w_82 =>
          again3 out81 (w64 (i5 + 1)) w_82)
        (k2 out4 w_6)) [.sl (⟨none, 0, 0⟩), .int .i64 0] w) fun out83 w_84 =>
    K out83 0 w_84)

def N_winnowref11_Records : Ann := (.mk none [] [] .done .nil (.mk none [] [] .done .nil (.mk none [] [] .done .nil (.mk none [] [] .done (.mk none [] [] .done .nil (.mk (some [.tmp 4 (.leaf (.sl))]) [] [] .done (.mk none [.tmp 4 (.leaf (.sl)), .tmp 5 (.leaf (.int .i64))] [0] .done (.mk none [] [] .done .nil (.mk none [] [] .done (.mk none [] [] .done (.mk none [] [] .done .nil (.mk (some [.tmp 4 (.leaf (.sl))]) [] [0, 5] .done (.mk none [.tmp 4 (.leaf (.sl)), .tmp 6 (.leaf (.int .i64))] [0, 5] .done (.mk none [] [] .done .nil (.mk none [] [] .done (.mk none [] [] .done (.mk none [] [] .done (.mk none [] [] .done (.mk (some [.tmp 47 (.leaf (.bool))]) [] [0, 4, 5, 6] (.take 0 (.take 1 (.take 2 (.split 2 (.take 3 (.take 4 (.take 5 (.take 6 (.take 7 (.take 8 (.take 9 (.take 10 (.take 11 (.take 12 (.take 13 (.take 14 (.take 15 (.take 16 (.take 17 (.eff 18 (.take 19 .done))))))))))))))))) (.take 3 (.take 4 (.take 5 (.take 6 (.take 7 (.take 8 (.take 9 (.take 10 (.take 11 (.take 12 (.take 13 (.take 14 (.take 15 (.take 16 (.take 17 (.take 18 (.take 19 .done))))))))))))))))))))) .nil .nil) .nil) (.mk none [] [] .done .nil (.mk none [] [] .done .nil (.mk none [] [] .done (.mk (some [.tmp 8 (.leaf (.int .i64))]) [] [0, 4, 5, 6, 7] .done (.mk none [.tmp 8 (.leaf (.int .i64))] [0, 4, 5, 6, 7] .done (.mk none [] [] .done (.mk none [] [] .done (.mk (some [.tmp 67 (.leaf (.bool))]) [] [0, 4, 5, 6, 7, 8] (.take 0 (.take 1 (.take 2 (.split 2 (.take 3 (.take 4 (.take 5 (.take 6 (.take 7 (.take 8 (.eff 9 (.take 10 .done)))))))) (.take 3 (.take 4 (.take 5 (.take 6 (.take 7 (.take 8 (.take 9 (.take 10 .done)))))))))))) .nil .nil) .nil) .nil) .nil) .nil) .nil)))) .nil) .nil)) .nil) .nil)) .nil) .nil)) .nil) .nil)) .nil))))

theorem is_winnowref11_Records (lists1 : Sl) (K : Sl → Int → World → Prop) (w : World) : WF Try.prog CS Try.f37 N_winnowref11_Records (.tup [.leaf (.sl), .leaf (.int .i64)]) [.leaf (.sl lists1)] K w = S_winnowref11_Records lists1 K w := by kernel_rfl
theorem go_winnowref11_Records (lists1 : Sl) (K : Sl → Int → World → Prop) (w : World) (h : S_winnowref11_Records lists1 K w) : callK Try.prog 37 [.leaf (.sl lists1)] w (.tup [.leaf (.sl), .leaf (.int .i64)]) K := by
  refine WF_sound (n := N_winnowref11_Records) CS_ok mixed Try.func37 ?_
  rw [is_winnowref11_Records]
  exact h

-- 38 winnow/winnowlaw11.sameRecords
def S_winnowlaw11_sameRecords (a1 : Sl) (b2 : Sl) (K : Bool → World → Prop) (w : World) : Prop :=
  ifK ((a1.len : Int) != (b2.len : Int))
  (K false w)
  (joinK [] (fun k3 =>
      loopL [.int .i64] (fun i5 w_6 again4 =>
        ifK (decide (i5 < (a1.len : Int)))
        (drawK w_6 fun D w_7 =>
          ix a1 3 i5 fun b8 o9 =>
          ldD D w_7 (.int .i64) b8 o9 fun n10 =>
          ldD D w_7 .str b8 (o9 + 1) fun s11 =>
          ldD D w_7 .str b8 (o9 + 2) fun s12 =>
          ix b2 3 i5 fun b13 o14 =>
          ldD D w_7 (.int .i64) b13 o14 fun n15 =>
          ldD D w_7 .str b13 (o14 + 1) fun s16 =>
          ldD D w_7 .str b13 (o14 + 2) fun s17 =>
          opF Try.prog (vS (do eqGuard .neq 91 (.tmp 20) (.tmp 24) (.agg #[(LV.toV (.int .i64 n10)), (LV.toV (.str s11)), (LV.toV (.str s12))]) (.agg #[(LV.toV (.int .i64 n15)), (LV.toV (.str s16)), (LV.toV (.str s17))]); binOp .neq 91 (.agg #[(LV.toV (.int .i64 n10)), (LV.toV (.str s11)), (LV.toV (.str s12))]) (.agg #[(LV.toV (.int .i64 n15)), (LV.toV (.str s16)), (LV.toV (.str s17))]))) w_7 (.one (.leaf (.bool))) fun c19 w_18 =>
          Mod D w_7 w_18 ∧
          ifK c19
          (K false w_18)
          (again4 (w64 (i5 + 1)) w_18))
        (k3 w_6)) [.int .i64 0] w) fun w_20 =>
    K true w_20)

def N_winnowlaw11_sameRecords : Ann := (.mk none [] [] .done .nil (.mk none [] [] .done .nil (.mk none [] [] .done (.mk none [] [] .done .nil (.mk (some []) [] [] .done (.mk none [.tmp 5 (.leaf (.int .i64))] [0, 1] .done (.mk none [] [] .done .nil (.mk none [] [] .done (.mk none [] [] .done (.mk none [] [] .done (.mk none [] [] (.take 0 (.take 1 (.take 2 (.take 3 (.take 4 (.take 5 (.take 6 (.take 7 (.eff 8 .done))))))))) .nil .nil) .nil) .nil) .nil)) .nil) .nil)) .nil)))

theorem is_winnowlaw11_sameRecords (a1 : Sl) (b2 : Sl) (K : Bool → World → Prop) (w : World) : WF Try.prog CS Try.f38 N_winnowlaw11_sameRecords (.one (.leaf (.bool))) [.leaf (.sl a1), .leaf (.sl b2)] K w = S_winnowlaw11_sameRecords a1 b2 K w := by kernel_rfl
theorem go_winnowlaw11_sameRecords (a1 : Sl) (b2 : Sl) (K : Bool → World → Prop) (w : World) (h : S_winnowlaw11_sameRecords a1 b2 K w) : callK Try.prog 38 [.leaf (.sl a1), .leaf (.sl b2)] w (.one (.leaf (.bool))) K := by
  refine WF_sound (n := N_winnowlaw11_sameRecords) CS_ok mixed Try.func38 ?_
  rw [is_winnowlaw11_sameRecords]
  exact h

-- 50 winnow/merge.Records$1
def S_merge_Records_1 (t0B1 : Nat) (t0O2 : Nat) (t1B3 : Nat) (t1O4 : Nat) (K : Int → List UInt8 → List UInt8 → Bool → Int → World → Prop) (w : World) : Prop :=
  al w 91 [.int .i64 0, .str [], .str []] fun b5 w_6 =>
  ld w_6 (.int .i64) t0B1 t0O2 fun n7 =>
  ld w_6 .sl t1B3 t1O4 fun a8 =>
  ifK (n7 == (a8.len : Int))
  (st w_6 b5 0 [.int .i64 0, .str [], .str []] fun w_9 =>
    ld w_9 (.int .i64) b5 0 fun n10 =>
    ld w_9 .str b5 1 fun s11 =>
    ld w_9 .str b5 2 fun s12 =>
    K n10 s11 s12 false 0 w_9)
  (ld w_6 (.int .i64) t0B1 t0O2 fun n13 =>
    st w_6 t0B1 t0O2 [.int .i64 (w64 (n13 + 1))] fun w_14 =>
    ld w_14 .sl t1B3 t1O4 fun a15 =>
    ld w_14 (.int .i64) t0B1 t0O2 fun n16 =>
    ix a15 3 (w64 (n16 - 1)) fun b17 o18 =>
    ld w_14 (.int .i64) b17 o18 fun n19 =>
    ld w_14 .str b17 (o18 + 1) fun s20 =>
    ld w_14 .str b17 (o18 + 2) fun s21 =>
    st w_14 b5 0 [.int .i64 n19, .str s20, .str s21] fun w_22 =>
    ld w_22 (.int .i64) b5 0 fun n23 =>
    ld w_22 .str b5 1 fun s24 =>
    ld w_22 .str b5 2 fun s25 =>
    K n23 s24 s25 true 0 w_22)

def N_merge_Records_1 : Ann := .nil

theorem is_merge_Records_1 (t0B1 : Nat) (t0O2 : Nat) (t1B3 : Nat) (t1O4 : Nat) (K : Int → List UInt8 → List UInt8 → Bool → Int → World → Prop) (w : World) : WF Try.prog CS Try.f50 N_merge_Records_1 (.tup [.agg [.int .i64, .str, .str], .leaf (.bool), .leaf (.int .i64)]) [.leaf (.ptr (some (t0B1, t0O2))), .leaf (.ptr (some (t1B3, t1O4)))] K w = S_merge_Records_1 t0B1 t0O2 t1B3 t1O4 K w := by kernel_rfl
theorem go_merge_Records_1 (t0B1 : Nat) (t0O2 : Nat) (t1B3 : Nat) (t1O4 : Nat) (K : Int → List UInt8 → List UInt8 → Bool → Int → World → Prop) (w : World) (h : S_merge_Records_1 t0B1 t0O2 t1B3 t1O4 K w) : callK Try.prog 50 [.leaf (.ptr (some (t0B1, t0O2))), .leaf (.ptr (some (t1B3, t1O4)))] w (.tup [.agg [.int .i64, .str, .str], .leaf (.bool), .leaf (.int .i64)]) K := by
  refine WF_sound (n := N_merge_Records_1) CS_ok mixed Try.func50 ?_
  rw [is_merge_Records_1]
  exact h

-- 51 winnow/merge.New[winnow/api.Record]
def S_merge_New_api_Record (compare1 : Value) (from_2 : Sl) (K : PA → Int → World → Prop) (w : World) : Prop :=
  nilF compare1 fun c3 =>
  ifK c3
  (K none 1 w)
  (joinK [] (fun k4 =>
      loopL [.int .i64] (fun t136 w_7 again5 =>
        ifK (decide (t136 < (from_2.len : Int)))
        (ix from_2 1 t136 fun b8 o9 =>
          ld w_7 .val b8 o9 fun v10 =>
          nilF v10 fun c11 =>
          ifK c11
          (K none 1 w_7)
          (again5 (w64 (t136 + 1)) w_7))
        (k4 w_7)) [.int .i64 0] w) fun w_12 =>
    ifK (decide (64 < (from_2.len : Int)))
    (K none 3 w_12)
    (al w_12 114 [] fun b13 w_14 =>
      ap w_14 114 1 8 [.val .nilFunc] (⟨some (b13, 0), 0, 0⟩) from_2 fun a15 w_16 =>
      (∀ x ∈ [(compare1 : Value)], isCell x = true) ∧
      (∀ x ∈ [(compare1 : Value)], isCell x = true) ∧
      al w_16 125 [.val compare1, .sl a15, .sl (⟨none, 0, 0⟩), .sl (⟨none, 0, 0⟩), .sl (⟨none, 0, 0⟩), .int .i64 0, .lit false, .lit false, .int .i64 0] fun b17 w_18 =>
      joinK [] (fun k19 =>
        drawK w_18 fun D w_20 =>
        (mk w_20 91 40 [.int .i64 0, .str [], .str []] (from_2.len : Int) (from_2.len : Int) fun a21 w_22 =>
          Mod D w_20 w_22 ∧
          dr (some (b17, 0)) fun b23 o24 =>
          (mk w_22 4 1 [.lit false] (from_2.len : Int) (from_2.len : Int) fun a25 w_26 =>
            Mod D w_20 w_26 ∧
            st w_26 b23 (o24 + 2) [.sl a21] fun w_27 =>
            Mod D w_20 w_27 ∧
            dr (some (b17, 0)) fun b28 o29 =>
            st w_27 b28 (o29 + 3) [.sl a25] fun w_30 =>
            k19 w_30) ∧
          (st w_22 b23 (o24 + 2) [.sl a21] fun w_31 =>
            Mod D w_20 w_31 ∧
            mk w_31 4 1 [.lit false] (from_2.len : Int) (from_2.len : Int) fun a32 w_33 =>
            Mod D w_20 w_33 ∧
            dr (some (b17, 0)) fun b34 o35 =>
            st w_33 b34 (o35 + 3) [.sl a32] fun w_36 =>
            k19 w_36)) ∧
        (mk w_20 4 1 [.lit false] (from_2.len : Int) (from_2.len : Int) fun a37 w_38 =>
          Mod D w_20 w_38 ∧
          mk w_38 91 40 [.int .i64 0, .str [], .str []] (from_2.len : Int) (from_2.len : Int) fun a39 w_40 =>
          Mod D w_20 w_40 ∧
          dr (some (b17, 0)) fun b41 o42 =>
          st w_40 b41 (o42 + 2) [.sl a39] fun w_43 =>
          Mod D w_20 w_43 ∧
          dr (some (b17, 0)) fun b44 o45 =>
          st w_43 b44 (o45 + 3) [.sl a37] fun w_46 =>
          k19 w_46)) fun w_47 =>
      K (some (b17, 0)) 0 w_47))

def N_merge_New_api_Record : Ann := (.mk none [] [] .done .nil (.mk none [] [] .done .nil (.mk none [] [] .done (.mk none [] [] .done .nil (.mk (some []) [] [0, 1] .done (.mk none [.tmp 13 (.leaf (.int .i64))] [0, 1, 11, 12] .done .nil .nil) .nil)) (.mk none [] [] .done .nil (.mk none [] [] .done .nil (.mk none [] [] .done (.mk (some []) [] [8] (.take 0 (.take 1 (.take 2 (.take 3 (.take 5 (.take 6 (.two 4 (.take 8 (.take 9 (.two 7 (.eff 10 (.take 11 (.take 12 (.last 13)))) 10 (.eff 7 (.take 11 (.take 12 (.last 13))))))) 7 (.eff 4 (.take 8 (.take 9 (.eff 10 (.take 11 (.take 12 (.last 13)))))))))))))) .nil .nil) .nil))))))

theorem is_merge_New_api_Record (compare1 : Value) (from_2 : Sl) (K : PA → Int → World → Prop) (w : World) : WF Try.prog CS Try.f51 N_merge_New_api_Record (.tup [.leaf (.ptr), .leaf (.int .i64)]) [.leaf (.val compare1), .leaf (.sl from_2)] K w = S_merge_New_api_Record compare1 from_2 K w := by kernel_rfl
theorem go_merge_New_api_Record (compare1 : Value) (from_2 : Sl) (K : PA → Int → World → Prop) (w : World) (h : S_merge_New_api_Record compare1 from_2 K w) : callK Try.prog 51 [.leaf (.val compare1), .leaf (.sl from_2)] w (.tup [.leaf (.ptr), .leaf (.int .i64)]) K := by
  refine WF_sound (n := N_merge_New_api_Record) CS_ok mixed Try.func51 ?_
  rw [is_merge_New_api_Record]
  exact h

-- 52 winnow/sortbuf.Compare
def S_sortbuf_Compare (a_0_1 : Int) (a_1_2 : List UInt8) (a_2_3 : List UInt8) (b_0_4 : Int) (b_1_5 : List UInt8) (b_2_6 : List UInt8) (K : Int → World → Prop) (w : World) : Prop :=
  al w 91 [.int .i64 a_0_1, .str a_1_2, .str a_2_3] fun b7 w_8 =>
  al w_8 91 [.int .i64 b_0_4, .str b_1_5, .str b_2_6] fun b9 w_10 =>
  ld w_10 (.int .i64) b7 0 fun n11 =>
  ld w_10 (.int .i64) b9 0 fun n12 =>
  ifK (decide (n11 < n12))
  (K (-1) w_10)
  (ld w_10 (.int .i64) b7 0 fun n13 =>
    ld w_10 (.int .i64) b9 0 fun n14 =>
    ifK (decide (n14 < n13))
    (K 1 w_10)
    (ld w_10 .str b7 1 fun s15 =>
      ld w_10 .str b9 1 fun s16 =>
      callK Try.prog 58 [.leaf (.str s15), .leaf (.str s16)] w_10 (.one (.leaf (.int .i64))) fun n17 w_18 =>
      K n17 w_18))

def N_sortbuf_Compare : Ann := .nil

theorem is_sortbuf_Compare (a_0_1 : Int) (a_1_2 : List UInt8) (a_2_3 : List UInt8) (b_0_4 : Int) (b_1_5 : List UInt8) (b_2_6 : List UInt8) (K : Int → World → Prop) (w : World) : WF Try.prog CS Try.f52 N_sortbuf_Compare (.one (.leaf (.int .i64))) [.agg [.int .i64 a_0_1, .str a_1_2, .str a_2_3], .agg [.int .i64 b_0_4, .str b_1_5, .str b_2_6]] K w = S_sortbuf_Compare a_0_1 a_1_2 a_2_3 b_0_4 b_1_5 b_2_6 K w := by kernel_rfl
theorem go_sortbuf_Compare (a_0_1 : Int) (a_1_2 : List UInt8) (a_2_3 : List UInt8) (b_0_4 : Int) (b_1_5 : List UInt8) (b_2_6 : List UInt8) (K : Int → World → Prop) (w : World) (h : S_sortbuf_Compare a_0_1 a_1_2 a_2_3 b_0_4 b_1_5 b_2_6 K w) : callK Try.prog 52 [.agg [.int .i64 a_0_1, .str a_1_2, .str a_2_3], .agg [.int .i64 b_0_4, .str b_1_5, .str b_2_6]] w (.one (.leaf (.int .i64))) K := by
  refine WF_sound (n := N_sortbuf_Compare) CS_ok mixed Try.func52 ?_
  rw [is_sortbuf_Compare]
  exact h

-- 53 (*winnow/merge.Merge[winnow/api.Record]).All
def S_merge_Merge_All_api_Record (m1 : PA) (K : Value → World → Prop) (w : World) : Prop :=
  al w 115 [.ptr m1] fun b2 w_3 =>
  K (.func (.func 59) #[] #[(LV.toV (.ptr (some (b2, 0))))]) w_3

def N_merge_Merge_All_api_Record : Ann := .nil

theorem is_merge_Merge_All_api_Record (m1 : PA) (K : Value → World → Prop) (w : World) : WF Try.prog CS Try.f53 N_merge_Merge_All_api_Record (.one (.leaf (.val))) [.leaf (.ptr m1)] K w = S_merge_Merge_All_api_Record m1 K w := by kernel_rfl
theorem go_merge_Merge_All_api_Record (m1 : PA) (K : Value → World → Prop) (w : World) (h : S_merge_Merge_All_api_Record m1 K w) : callK Try.prog 53 [.leaf (.ptr m1)] w (.one (.leaf (.val))) K := by
  refine WF_sound (n := N_merge_Merge_All_api_Record) CS_ok mixed Try.func53 ?_
  rw [is_merge_Merge_All_api_Record]
  exact h

-- 54 (*winnow/merge.Merge[winnow/api.Record]).Err
def S_merge_Merge_Err_api_Record (m1 : PA) (K : Int → World → Prop) (w : World) : Prop :=
  ifK m1.isNone
  (K 1 w)
  (dr m1 fun b2 o3 =>
    ld w (.int .i64) b2 (o3 + 8) fun n4 =>
    K n4 w)

def N_merge_Merge_Err_api_Record : Ann := .nil

theorem is_merge_Merge_Err_api_Record (m1 : PA) (K : Int → World → Prop) (w : World) : WF Try.prog CS Try.f54 N_merge_Merge_Err_api_Record (.one (.leaf (.int .i64))) [.leaf (.ptr m1)] K w = S_merge_Merge_Err_api_Record m1 K w := by kernel_rfl
theorem go_merge_Merge_Err_api_Record (m1 : PA) (K : Int → World → Prop) (w : World) (h : S_merge_Merge_Err_api_Record m1 K w) : callK Try.prog 54 [.leaf (.ptr m1)] w (.one (.leaf (.int .i64))) K := by
  refine WF_sound (n := N_merge_Merge_Err_api_Record) CS_ok mixed Try.func54 ?_
  rw [is_merge_Merge_Err_api_Record]
  exact h

-- 55 winnow/winnowref11.before
def S_winnowref11_before (a_0_1 : Int) (a_1_2 : List UInt8) (a_2_3 : List UInt8) (b_0_4 : Int) (b_1_5 : List UInt8) (b_2_6 : List UInt8) (K : Bool → World → Prop) (w : World) : Prop :=
  al w 91 [.int .i64 a_0_1, .str a_1_2, .str a_2_3] fun b7 w_8 =>
  al w_8 91 [.int .i64 b_0_4, .str b_1_5, .str b_2_6] fun b9 w_10 =>
  ld w_10 (.int .i64) b7 0 fun n11 =>
  ld w_10 (.int .i64) b9 0 fun n12 =>
  ifK (n11 != n12)
  (ld w_10 (.int .i64) b7 0 fun n13 =>
    ld w_10 (.int .i64) b9 0 fun n14 =>
    K (decide (n13 < n14)) w_10)
  (ld w_10 .str b7 1 fun s15 =>
    ld w_10 .str b9 1 fun s16 =>
    K (Op.bytesLess s15 s16) w_10)

def N_winnowref11_before : Ann := .nil

theorem is_winnowref11_before (a_0_1 : Int) (a_1_2 : List UInt8) (a_2_3 : List UInt8) (b_0_4 : Int) (b_1_5 : List UInt8) (b_2_6 : List UInt8) (K : Bool → World → Prop) (w : World) : WF Try.prog CS Try.f55 N_winnowref11_before (.one (.leaf (.bool))) [.agg [.int .i64 a_0_1, .str a_1_2, .str a_2_3], .agg [.int .i64 b_0_4, .str b_1_5, .str b_2_6]] K w = S_winnowref11_before a_0_1 a_1_2 a_2_3 b_0_4 b_1_5 b_2_6 K w := by kernel_rfl
theorem go_winnowref11_before (a_0_1 : Int) (a_1_2 : List UInt8) (a_2_3 : List UInt8) (b_0_4 : Int) (b_1_5 : List UInt8) (b_2_6 : List UInt8) (K : Bool → World → Prop) (w : World) (h : S_winnowref11_before a_0_1 a_1_2 a_2_3 b_0_4 b_1_5 b_2_6 K w) : callK Try.prog 55 [.agg [.int .i64 a_0_1, .str a_1_2, .str a_2_3], .agg [.int .i64 b_0_4, .str b_1_5, .str b_2_6]] w (.one (.leaf (.bool))) K := by
  refine WF_sound (n := N_winnowref11_before) CS_ok mixed Try.func55 ?_
  rw [is_winnowref11_before]
  exact h

-- 58 winnow/nums.Compare
def S_nums_Compare (a1 : List UInt8) (b2 : List UInt8) (K : Int → World → Prop) (w : World) : Prop :=
  joinK [] (fun k3 =>
    loopL [.int .i64] (fun t115 w_6 again4 =>
      ifK (decide (t115 < mnI (a1.length : Int) (b2.length : Int)))
      (drawK w_6 fun D w_7 =>
        sx a1 t115 fun c8 =>
        sx b2 t115 fun c9 =>
        ifK (decide (c8 < c9))
        (K (-1) w_7)
        (drawK w_7 fun D w_10 =>
          sx a1 t115 fun c11 =>
          sx b2 t115 fun c12 =>
          ifK (decide (c12 < c11))
          (K 1 w_10)
          (again4 (w64 (t115 + 1)) w_10)))
      (k3 w_6)) [.int .i64 0] w) fun w_13 =>
  ifK (decide ((a1.length : Int) < (b2.length : Int)))
  (K (-1) w_13)
  (ifK (decide ((b2.length : Int) < (a1.length : Int)))
    (K 1 w_13)
    (K 0 w_13))

def N_nums_Compare : Ann := (.mk none [] [] .done .nil (.mk none [] [] .done (.mk none [] [] .done .nil (.mk (some []) [] [0, 1] .done (.mk none [.tmp 11 (.leaf (.int .i64))] [0, 1, 10] .done (.mk none [] [] .done .nil (.mk none [] [] .done .nil (.mk none [] [] .done (.mk none [] [] .done (.mk none [] [] .done .nil (.mk none [] [] .done (.mk none [] [] .done (.mk none [] [] (.take 0 (.take 1 (.take 2 (.take 3 (.take 4 (.take 5 (.take 6 (.take 7 .done)))))))) .nil .nil) (.mk none [] [] .done .nil (.mk none [] [] .done (.mk none [] [] (.take 0 (.take 1 (.take 2 (.take 3 (.take 4 (.take 5 (.take 6 (.take 7 .done)))))))) .nil .nil) .nil))) .nil)) .nil) .nil))) .nil) .nil)) .nil))

theorem is_nums_Compare (a1 : List UInt8) (b2 : List UInt8) (K : Int → World → Prop) (w : World) : WF Try.prog CS Try.f58 N_nums_Compare (.one (.leaf (.int .i64))) [.leaf (.str a1), .leaf (.str b2)] K w = S_nums_Compare a1 b2 K w := by kernel_rfl
theorem go_nums_Compare (a1 : List UInt8) (b2 : List UInt8) (K : Int → World → Prop) (w : World) (h : S_nums_Compare a1 b2 K w) : callK Try.prog 58 [.leaf (.str a1), .leaf (.str b2)] w (.one (.leaf (.int .i64))) K := by
  refine WF_sound (n := N_nums_Compare) CS_ok mixed Try.func58 ?_
  rw [is_nums_Compare]
  exact h

-- 59 (*winnow/merge.Merge[winnow/api.Record]).All$1
def S_merge_Merge_All_1_api_Record (yield1 : Value) (t1B2 : Nat) (t1O3 : Nat) (K : World → Prop) (w : World) : Prop :=
  loopL [] (fun w_5 again4 =>
    ld w_5 .ptr t1B2 t1O3 fun p6 =>
    callK Try.prog 60 [.leaf (.ptr p6)] w_5 (.tup [.agg [.int .i64, .str, .str], .leaf (.bool), .leaf (.int .i64)]) fun n7 s8 s9 c10 n11 w_12 =>
    al w_12 91 [.int .i64 0, .str [], .str []] fun b13 w_14 =>
    st w_14 b13 0 [.int .i64 n7, .str s8, .str s9] fun w_15 =>
    joinK [.bool] (fun k16 =>
      ifK (!c10)
      (k16 true w_15)
      (ld w_15 (.int .i64) b13 0 fun n17 =>
        ld w_15 .str b13 1 fun s18 =>
        ld w_15 .str b13 2 fun s19 =>
        callV Try.prog yield1 [.agg [.int .i64 n17, .str s18, .str s19]] w_15 (.one (.leaf (.bool))) fun c20 w_21 =>
        k16 (!c20) w_21)) fun t1922 w_23 =>
    ifK t1922
    (K w_23)
    (again4 w_23)) [] w

def N_merge_Merge_All_1_api_Record : Ann := (.mk none [] [] .done (.mk none [] [0, 1] .done (.mk none [] [] .done (.mk none [] [] .done .nil (.mk none [] [] .done (.mk (some [.tmp 19 (.leaf (.bool))]) [] [0, 1] .done .nil .nil) .nil)) .nil) .nil) .nil)

theorem is_merge_Merge_All_1_api_Record (yield1 : Value) (t1B2 : Nat) (t1O3 : Nat) (K : World → Prop) (w : World) : WF Try.prog CS Try.f59 N_merge_Merge_All_1_api_Record (.tup []) [.leaf (.val yield1), .leaf (.ptr (some (t1B2, t1O3)))] K w = S_merge_Merge_All_1_api_Record yield1 t1B2 t1O3 K w := by kernel_rfl
theorem go_merge_Merge_All_1_api_Record (yield1 : Value) (t1B2 : Nat) (t1O3 : Nat) (K : World → Prop) (w : World) (h : S_merge_Merge_All_1_api_Record yield1 t1B2 t1O3 K w) : callK Try.prog 59 [.leaf (.val yield1), .leaf (.ptr (some (t1B2, t1O3)))] w (.tup []) K := by
  refine WF_sound (n := N_merge_Merge_All_1_api_Record) CS_ok mixed Try.func59 ?_
  rw [is_merge_Merge_All_1_api_Record]
  exact h

-- 60 (*winnow/merge.Merge[winnow/api.Record]).Next
def S_merge_Merge_Next_api_Record (m1 : PA) (K : Int → List UInt8 → List UInt8 → Bool → Int → World → Prop) (w : World) : Prop :=
  al w 91 [.int .i64 0, .str [], .str []] fun b2 w_3 =>
  al w_3 91 [.int .i64 0, .str [], .str []] fun b4 w_5 =>
  ifK m1.isNone
  (ld w_5 (.int .i64) b4 0 fun n6 =>
    ld w_5 .str b4 1 fun s7 =>
    ld w_5 .str b4 2 fun s8 =>
    st w_5 b2 0 [.int .i64 n6, .str s7, .str s8] fun w_9 =>
    ld w_9 (.int .i64) b2 0 fun n10 =>
    ld w_9 .str b2 1 fun s11 =>
    ld w_9 .str b2 2 fun s12 =>
    K n10 s11 s12 false 1 w_9)
  (dr m1 fun b13 o14 =>
    ld w_5 .bool b13 (o14 + 7) fun c15 =>
    ifK c15
    (drawK w_5 fun D w_16 =>
      ldD D w_16 (.int .i64) b4 0 fun n17 =>
      ldD D w_16 .str b4 1 fun s18 =>
      ldD D w_16 .str b4 2 fun s19 =>
      dr m1 fun b20 o21 =>
      ldD D w_16 (.int .i64) b20 (o21 + 8) fun n22 =>
      st w_16 b2 0 [.int .i64 n17, .str s18, .str s19] fun w_23 =>
      Mod D w_16 w_23 ∧
      ld w_23 (.int .i64) b2 0 fun n24 =>
      ld w_23 .str b2 1 fun s25 =>
      ld w_23 .str b2 2 fun s26 =>
      K n24 s25 s26 false n22 w_23)
    (dr m1 fun b27 o28 =>
      ld w_5 .bool b27 (o28 + 6) fun c29 =>
      joinK [] (fun k30 =>
        ifK (!c29)
        (callK Try.prog 61 [.leaf (.ptr m1)] w_5 (.one (.leaf (.int .i64))) fun n31 w_32 =>
          ifK (n31 != 0)
          (ld w_32 (.int .i64) b4 0 fun n33 =>
            ld w_32 .str b4 1 fun s34 =>
            ld w_32 .str b4 2 fun s35 =>
            st w_32 b2 0 [.int .i64 n33, .str s34, .str s35] fun w_36 =>
            ld w_36 (.int .i64) b2 0 fun n37 =>
            ld w_36 .str b2 1 fun s38 =>
            ld w_36 .str b2 2 fun s39 =>
            K n37 s38 s39 false n31 w_36)
          (k30 w_32))
        (dr m1 fun b40 o41 =>
          ld w_5 (.int .i64) b40 (o41 + 5) fun n42 =>
          callK Try.prog 62 [.leaf (.ptr m1), .leaf (.int .i64 n42)] w_5 (.one (.leaf (.int .i64))) fun n43 w_44 =>
          ifK (n43 != 0)
          (ld w_44 (.int .i64) b4 0 fun n45 =>
            ld w_44 .str b4 1 fun s46 =>
            ld w_44 .str b4 2 fun s47 =>
            st w_44 b2 0 [.int .i64 n45, .str s46, .str s47] fun w_48 =>
            ld w_48 (.int .i64) b2 0 fun n49 =>
            ld w_48 .str b2 1 fun s50 =>
            ld w_48 .str b2 2 fun s51 =>
            K n49 s50 s51 false n43 w_48)
          (dr m1 fun b52 o53 =>
            ld w_44 (.int .i64) b52 (o53 + 5) fun n54 =>
            callK Try.prog 63 [.leaf (.ptr m1), .leaf (.int .i64 n54)] w_44 (.tup []) fun w_55 =>
            k30 w_55))) fun w_56 =>
      joinK [.bool] (fun k57 =>
        drawK w_56 fun D w_58 =>
        dr m1 fun b59 o60 =>
        ldD D w_58 .sl b59 (o60 + 1) fun a61 =>
        ifK ((a61.len : Int) == 0)
        (k57 true w_58)
        (dr m1 fun b62 o63 =>
          ldD D w_58 .sl b62 (o63 + 3) fun a64 =>
          dr m1 fun b65 o66 =>
          ldD D w_58 (.int .i64) b65 (o66 + 5) fun n67 =>
          ix a64 1 n67 fun b68 o69 =>
          ldD D w_58 .bool b68 o69 fun c70 =>
          k57 (!c70) w_58)) fun t6571 w_72 =>
      ifK t6571
      (drawK w_72 fun D w_73 =>
        ldD D w_73 (.int .i64) b4 0 fun n74 =>
        ldD D w_73 .str b4 1 fun s75 =>
        ldD D w_73 .str b4 2 fun s76 =>
        callK Try.prog 64 [.leaf (.ptr m1), .leaf (.int .i64 0)] w_73 (.one (.leaf (.int .i64))) fun n77 w_78 =>
        Mod D w_73 w_78 ∧
        st w_78 b2 0 [.int .i64 n74, .str s75, .str s76] fun w_79 =>
        Mod D w_73 w_79 ∧
        ld w_79 (.int .i64) b2 0 fun n80 =>
        ld w_79 .str b2 1 fun s81 =>
        ld w_79 .str b2 2 fun s82 =>
        K n80 s81 s82 false n77 w_79)
      (drawK w_72 fun D w_83 =>
        dr m1 fun b84 o85 =>
        ldD D w_83 .sl b84 (o85 + 2) fun a86 =>
        dr m1 fun b87 o88 =>
        ldD D w_83 (.int .i64) b87 (o88 + 5) fun n89 =>
        ix a86 3 n89 fun b90 o91 =>
        ldD D w_83 (.int .i64) b90 o91 fun n92 =>
        ldD D w_83 .str b90 (o91 + 1) fun s93 =>
        ldD D w_83 .str b90 (o91 + 2) fun s94 =>
        st w_83 b2 0 [.int .i64 n92, .str s93, .str s94] fun w_95 =>
        Mod D w_83 w_95 ∧
        ld w_95 (.int .i64) b2 0 fun n96 =>
        ld w_95 .str b2 1 fun s97 =>
        ld w_95 .str b2 2 fun s98 =>
        K n96 s97 s98 true 0 w_95)))

def N_merge_Merge_Next_api_Record : Ann := (.mk none [] [] .done .nil (.mk none [] [] .done .nil (.mk none [] [] .done .nil (.mk none [] [] .done (.mk none [] [] .done .nil (.mk none [] [] .done (.mk none [] [] .done (.mk none [] [] (.take 0 (.take 1 (.take 2 (.take 3 (.take 4 (.eff 5 (.take 6 (.take 7 .done)))))))) .nil .nil) .nil) .nil)) (.mk none [] [] .done (.mk none [] [] .done .nil (.mk (some []) [] [0, 2, 5] .done .nil .nil)) (.mk none [] [] .done (.mk none [] [] .done (.mk (some [.tmp 65 (.leaf (.bool))]) [] [0, 2, 5] (.take 0 (.take 1 (.take 2 (.take 3 (.take 4 (.take 5 (.take 6 (.split 6 (.take 7 (.take 8 (.take 9 (.take 10 (.take 11 (.take 12 (.take 13 (.take 14 (.take 15 (.take 16 (.take 17 (.take 18 .done)))))))))))) (.take 7 (.take 8 (.take 9 (.take 10 (.take 11 (.take 12 (.take 13 (.take 14 (.take 15 (.take 16 (.take 17 (.take 18 .done)))))))))))))))))))) .nil .nil) (.mk none [] [] .done (.mk none [] [] .done (.mk none [] [] (.take 0 (.take 1 (.eff 2 (.eff 3 (.take 4 (.take 5 .done)))))) .nil .nil) .nil) .nil)) (.mk none [] [] .done (.mk none [] [] (.take 0 (.take 1 (.take 2 (.take 3 (.take 4 (.take 5 (.take 6 (.take 7 (.take 8 (.take 9 (.eff 10 (.take 11 (.take 12 .done))))))))))))) .nil .nil) .nil)))))))

theorem is_merge_Merge_Next_api_Record (m1 : PA) (K : Int → List UInt8 → List UInt8 → Bool → Int → World → Prop) (w : World) : WF Try.prog CS Try.f60 N_merge_Merge_Next_api_Record (.tup [.agg [.int .i64, .str, .str], .leaf (.bool), .leaf (.int .i64)]) [.leaf (.ptr m1)] K w = S_merge_Merge_Next_api_Record m1 K w := by kernel_rfl
theorem go_merge_Merge_Next_api_Record (m1 : PA) (K : Int → List UInt8 → List UInt8 → Bool → Int → World → Prop) (w : World) (h : S_merge_Merge_Next_api_Record m1 K w) : callK Try.prog 60 [.leaf (.ptr m1)] w (.tup [.agg [.int .i64, .str, .str], .leaf (.bool), .leaf (.int .i64)]) K := by
  refine WF_sound (n := N_merge_Merge_Next_api_Record) CS_ok mixed Try.func60 ?_
  rw [is_merge_Merge_Next_api_Record]
  exact h

-- 61 (*winnow/merge.Merge[winnow/api.Record]).begin
def S_merge_Merge_begin_api_Record (m1 : PA) (K : Int → World → Prop) (w : World) : Prop :=
  dr m1 fun b2 o3 =>
  st w b2 (o3 + 6) [.lit true] fun w_4 =>
  dr m1 fun b5 o6 =>
  ld w_4 .sl b5 (o6 + 1) fun a7 =>
  joinK [] (fun k8 =>
    loopL [.int .i64] (fun t1510 w_11 again9 =>
      ifK (decide (t1510 < (a7.len : Int)))
      (callK Try.prog 62 [.leaf (.ptr m1), .leaf (.int .i64 t1510)] w_11 (.one (.leaf (.int .i64))) fun n12 w_13 =>
        ifK (n12 != 0)
        (K n12 w_13)
        (again9 (w64 (t1510 + 1)) w_13))
      (k8 w_11)) [.int .i64 0] w_4) fun w_14 =>
  dr m1 fun b15 o16 =>
  ld w_14 .sl b15 (o16 + 1) fun a17 =>
  mk w_14 3 8 [.int .i64 0] (mxI (a17.len : Int) 1) (mxI (a17.len : Int) 1) fun a18 w_19 =>
  dr m1 fun b20 o21 =>
  st w_19 b20 (o21 + 4) [.sl a18] fun w_22 =>
  dr m1 fun b23 o24 =>
  ld w_22 .sl b23 (o24 + 4) fun a25 =>
  joinK [] (fun k26 =>
    loopL [.int .i64] (fun t4028 w_29 again27 =>
      ifK (decide (t4028 < (a25.len : Int)))
      (dr m1 fun b30 o31 =>
        ld w_29 .sl b30 (o31 + 4) fun a32 =>
        ix a32 1 t4028 fun b33 o34 =>
        st w_29 b33 o34 [.int .i64 (-1)] fun w_35 =>
        again27 (w64 (t4028 + 1)) w_35)
      (k26 w_29)) [.int .i64 0] w_22) fun w_36 =>
  dr m1 fun b37 o38 =>
  ld w_36 .sl b37 (o38 + 1) fun a39 =>
  joinK [] (fun k40 =>
    loopL [.int .i64] (fun t5542 w_43 again41 =>
      ifK (decide (t5542 < (a39.len : Int)))
      (callK Try.prog 63 [.leaf (.ptr m1), .leaf (.int .i64 t5542)] w_43 (.tup []) fun w_44 =>
        again41 (w64 (t5542 + 1)) w_44)
      (k40 w_43)) [.int .i64 0] w_36) fun w_45 =>
  K 0 w_45

def N_merge_Merge_begin_api_Record : Ann := (.mk none [] [] .done .nil (.mk none [] [] .done .nil (.mk none [] [] .done (.mk none [] [] .done .nil (.mk (some []) [] [0] .done (.mk none [.tmp 15 (.leaf (.int .i64))] [0, 14] .done .nil .nil) .nil)) (.mk none [] [] .done .nil (.mk none [] [] .done (.mk none [] [] .done .nil (.mk (some []) [] [0] .done (.mk none [.tmp 40 (.leaf (.int .i64))] [0, 39] .done .nil .nil) .nil)) (.mk none [] [] .done (.mk none [] [] .done .nil (.mk (some []) [] [] .done (.mk none [.tmp 55 (.leaf (.int .i64))] [0, 54] .done .nil .nil) .nil)) .nil))))))

theorem is_merge_Merge_begin_api_Record (m1 : PA) (K : Int → World → Prop) (w : World) : WF Try.prog CS Try.f61 N_merge_Merge_begin_api_Record (.one (.leaf (.int .i64))) [.leaf (.ptr m1)] K w = S_merge_Merge_begin_api_Record m1 K w := by kernel_rfl
theorem go_merge_Merge_begin_api_Record (m1 : PA) (K : Int → World → Prop) (w : World) (h : S_merge_Merge_begin_api_Record m1 K w) : callK Try.prog 61 [.leaf (.ptr m1)] w (.one (.leaf (.int .i64))) K := by
  refine WF_sound (n := N_merge_Merge_begin_api_Record) CS_ok mixed Try.func61 ?_
  rw [is_merge_Merge_begin_api_Record]
  exact h

-- 62 (*winnow/merge.Merge[winnow/api.Record]).asks
def S_merge_Merge_asks_api_Record (m1 : PA) (i2 : Int) (K : Int → World → Prop) (w : World) : Prop :=
  dr m1 fun b3 o4 =>
  ld w .sl b3 (o4 + 3) fun a5 =>
  ix a5 1 i2 fun b6 o7 =>
  ld w .bool b6 o7 fun c8 =>
  dr m1 fun b9 o10 =>
  ld w .sl b9 (o10 + 1) fun a11 =>
  ix a11 1 i2 fun b12 o13 =>
  ld w .val b12 o13 fun v14 =>
  callV Try.prog v14 [] w (.tup [.agg [.int .i64, .str, .str], .leaf (.bool), .leaf (.int .i64)]) fun n15 s16 s17 c18 n19 w_20 =>
  al w_20 91 [.int .i64 0, .str [], .str []] fun b21 w_22 =>
  st w_22 b21 0 [.int .i64 n15, .str s16, .str s17] fun w_23 =>
  ifK (n19 != 0)
  (callK Try.prog 64 [.leaf (.ptr m1), .leaf (.int .i64 n19)] w_23 (.one (.leaf (.int .i64))) fun n24 w_25 =>
    K n24 w_25)
  (joinK [.bool] (fun k26 =>
      drawK w_23 fun D w_27 =>
      ifK c18
      (ifK c8
        (dr m1 fun b28 o29 =>
          ldD D w_27 .val b28 o29 fun v30 =>
          ldD D w_27 (.int .i64) b21 0 fun n31 =>
          ldD D w_27 .str b21 1 fun s32 =>
          ldD D w_27 .str b21 2 fun s33 =>
          dr m1 fun b34 o35 =>
          ldD D w_27 .sl b34 (o35 + 2) fun a36 =>
          ix a36 3 i2 fun b37 o38 =>
          ldD D w_27 (.int .i64) b37 o38 fun n39 =>
          ldD D w_27 .str b37 (o38 + 1) fun s40 =>
          ldD D w_27 .str b37 (o38 + 2) fun s41 =>
          callV Try.prog v30 [.agg [.int .i64 n31, .str s32, .str s33], .agg [.int .i64 n39, .str s40, .str s41]] w_27 (.one (.leaf (.int .i64))) fun n42 w_43 =>
          Mod D w_27 w_43 ∧
          k26 (decide (n42 < 0)) w_43)
        (k26 false w_27))
      (k26 false w_27)) fun t5244 w_45 =>
    ifK t5244
    (callK Try.prog 64 [.leaf (.ptr m1), .leaf (.int .i64 61)] w_45 (.one (.leaf (.int .i64))) fun n46 w_47 =>
      K n46 w_47)
    (drawK w_45 fun D w_48 =>
      dr m1 fun b49 o50 =>
      ldD D w_48 .sl b49 (o50 + 2) fun a51 =>
      dr m1 fun b52 o53 =>
      ldD D w_48 .sl b52 (o53 + 3) fun a54 =>
      ldD D w_48 (.int .i64) b21 0 fun n55 =>
      ldD D w_48 .str b21 1 fun s56 =>
      ldD D w_48 .str b21 2 fun s57 =>
      ix a51 3 i2 fun b58 o59 =>
      st w_48 b58 o59 [.int .i64 n55, .str s56, .str s57] fun w_60 =>
      Mod D w_48 w_60 ∧
      ix a54 1 i2 fun b61 o62 =>
      st w_60 b61 o62 [.bool c18] fun w_63 =>
      K 0 w_63))

def N_merge_Merge_asks_api_Record : Ann := (.mk none [] [] .done .nil (.mk none [] [] .done .nil (.mk none [] [] .done .nil (.mk none [] [] .done .nil (.mk none [] [] .done (.mk none [] [] .done (.mk (some [.tmp 52 (.leaf (.bool))]) [] [0, 1, 6, 7] (.take 0 (.take 1 (.split 1 (.take 2 (.take 3 (.take 4 (.split 4 (.take 5 (.take 6 (.take 7 (.take 8 (.take 9 (.take 10 (.take 11 (.take 12 (.take 13 (.take 14 (.take 15 (.take 16 (.eff 17 (.take 18 (.take 19 .done))))))))))))))) (.take 5 (.take 6 (.take 7 (.take 8 (.take 9 (.take 10 (.take 11 (.take 12 (.take 13 (.take 14 (.take 15 (.take 16 (.take 17 (.take 18 (.take 19 .done))))))))))))))))))) (.take 2 (.take 3 (.take 4 (.take 5 (.take 6 (.take 7 (.take 8 (.take 9 (.take 10 (.take 11 (.take 12 (.take 13 (.take 14 (.take 15 (.take 16 (.take 17 (.take 18 (.take 19 .done))))))))))))))))))))) .nil .nil) .nil) (.mk none [] [] .done (.mk none [] [] (.take 0 (.take 1 (.take 2 (.take 3 (.take 4 (.take 5 (.take 6 (.take 7 (.take 8 (.take 9 (.take 10 (.take 11 (.take 12 (.eff 13 (.take 14 (.last 15)))))))))))))))) .nil .nil) .nil))))))

theorem is_merge_Merge_asks_api_Record (m1 : PA) (i2 : Int) (K : Int → World → Prop) (w : World) : WF Try.prog CS Try.f62 N_merge_Merge_asks_api_Record (.one (.leaf (.int .i64))) [.leaf (.ptr m1), .leaf (.int .i64 i2)] K w = S_merge_Merge_asks_api_Record m1 i2 K w := by kernel_rfl
theorem go_merge_Merge_asks_api_Record (m1 : PA) (i2 : Int) (K : Int → World → Prop) (w : World) (h : S_merge_Merge_asks_api_Record m1 i2 K w) : callK Try.prog 62 [.leaf (.ptr m1), .leaf (.int .i64 i2)] w (.one (.leaf (.int .i64))) K := by
  refine WF_sound (n := N_merge_Merge_asks_api_Record) CS_ok mixed Try.func62 ?_
  rw [is_merge_Merge_asks_api_Record]
  exact h

-- 63 (*winnow/merge.Merge[winnow/api.Record]).plays
def S_merge_Merge_plays_api_Record (m1 : PA) (i2 : Int) (K : World → Prop) (w : World) : Prop :=
  dr m1 fun b3 o4 =>
  ld w .sl b3 (o4 + 1) fun a5 =>
  joinK [.int .i64] (fun k6 =>
    loopL [.int .i64, .int .i64] (fun i8 at_9 w_10 again7 =>
      ifK (decide (0 < at_9))
      (dr m1 fun b11 o12 =>
        ld w_10 .sl b11 (o12 + 4) fun a13 =>
        ix a13 1 at_9 fun b14 o15 =>
        ld w_10 (.int .i64) b14 o15 fun n16 =>
        ifK (n16 == (-1))
        (dr m1 fun b17 o18 =>
          ld w_10 .sl b17 (o18 + 4) fun a19 =>
          ix a19 1 at_9 fun b20 o21 =>
          st w_10 b20 o21 [.int .i64 i8] fun w_22 =>
          K w_22)
        (callK Try.prog 65 [.leaf (.ptr m1), .leaf (.int .i64 n16), .leaf (.int .i64 i8)] w_10 (.one (.leaf (.bool))) fun c23 w_24 =>
          joinK [.int .i64] (fun k25 =>
            ifK c23
            (dr m1 fun b26 o27 =>
              ld w_24 .sl b26 (o27 + 4) fun a28 =>
              ix a28 1 at_9 fun b29 o30 =>
              st w_24 b29 o30 [.int .i64 i8] fun w_31 =>
              k25 n16 w_31)
            (k25 i8 w_24)) fun i32 w_33 =>
          again7 i32 (w64 (at_9.tdiv 2)) w_33))
      (k6 i8 w_10)) [.int .i64 i2, .int .i64 (w64 ((w64 (i2 + (a5.len : Int))).tdiv 2))] w) fun i34 w_35 =>
  dr m1 fun b36 o37 =>
  st w_35 b36 (o37 + 5) [.int .i64 i34] fun w_38 =>
  K w_38

def N_merge_Merge_plays_api_Record : Ann := (.mk none [] [] .done (.mk none [] [] .done .nil (.mk (some [.tmp 1 (.leaf (.int .i64))]) [] [0] .done (.mk none [.tmp 1 (.leaf (.int .i64)), .tmp 4 (.leaf (.int .i64))] [0] .done (.mk none [] [] .done .nil (.mk none [] [] .done (.mk none [] [] .done (.mk none [] [] .done .nil (.mk none [] [] .done .nil (.mk none [] [] .done .nil (.mk (some [.tmp 1 (.leaf (.int .i64))]) [] [0, 4] .done .nil .nil)))) .nil) .nil)) .nil) .nil)) .nil)

theorem is_merge_Merge_plays_api_Record (m1 : PA) (i2 : Int) (K : World → Prop) (w : World) : WF Try.prog CS Try.f63 N_merge_Merge_plays_api_Record (.tup []) [.leaf (.ptr m1), .leaf (.int .i64 i2)] K w = S_merge_Merge_plays_api_Record m1 i2 K w := by kernel_rfl
theorem go_merge_Merge_plays_api_Record (m1 : PA) (i2 : Int) (K : World → Prop) (w : World) (h : S_merge_Merge_plays_api_Record m1 i2 K w) : callK Try.prog 63 [.leaf (.ptr m1), .leaf (.int .i64 i2)] w (.tup []) K := by
  refine WF_sound (n := N_merge_Merge_plays_api_Record) CS_ok mixed Try.func63 ?_
  rw [is_merge_Merge_plays_api_Record]
  exact h

-- 64 (*winnow/merge.Merge[winnow/api.Record]).ends
def S_merge_Merge_ends_api_Record (m1 : PA) (e2 : Int) (K : Int → World → Prop) (w : World) : Prop :=
  dr m1 fun b3 o4 =>
  st w b3 (o4 + 7) [.lit true] fun w_5 =>
  dr m1 fun b6 o7 =>
  st w_5 b6 (o7 + 8) [.int .i64 e2] fun w_8 =>
  K e2 w_8

def N_merge_Merge_ends_api_Record : Ann := .nil

theorem is_merge_Merge_ends_api_Record (m1 : PA) (e2 : Int) (K : Int → World → Prop) (w : World) : WF Try.prog CS Try.f64 N_merge_Merge_ends_api_Record (.one (.leaf (.int .i64))) [.leaf (.ptr m1), .leaf (.int .i64 e2)] K w = S_merge_Merge_ends_api_Record m1 e2 K w := by kernel_rfl
theorem go_merge_Merge_ends_api_Record (m1 : PA) (e2 : Int) (K : Int → World → Prop) (w : World) (h : S_merge_Merge_ends_api_Record m1 e2 K w) : callK Try.prog 64 [.leaf (.ptr m1), .leaf (.int .i64 e2)] w (.one (.leaf (.int .i64))) K := by
  refine WF_sound (n := N_merge_Merge_ends_api_Record) CS_ok mixed Try.func64 ?_
  rw [is_merge_Merge_ends_api_Record]
  exact h

-- 65 (*winnow/merge.Merge[winnow/api.Record]).ahead
def S_merge_Merge_ahead_api_Record (m1 : PA) (a2 : Int) (b3 : Int) (K : Bool → World → Prop) (w : World) : Prop :=
  joinK [.bool] (fun k4 =>
    dr m1 fun b5 o6 =>
    ld w .sl b5 (o6 + 3) fun a7 =>
    ix a7 1 a2 fun b8 o9 =>
    ld w .bool b8 o9 fun c10 =>
    ifK (!c10)
    (k4 true w)
    (dr m1 fun b11 o12 =>
      ld w .sl b11 (o12 + 3) fun a13 =>
      ix a13 1 b3 fun b14 o15 =>
      ld w .bool b14 o15 fun c16 =>
      k4 (!c16) w)) fun t2517 w_18 =>
  ifK t2517
  (dr m1 fun b19 o20 =>
    ld w_18 .sl b19 (o20 + 3) fun a21 =>
    ix a21 1 a2 fun b22 o23 =>
    ld w_18 .bool b22 o23 fun c24 =>
    K c24 w_18)
  (drawK w_18 fun D w_25 =>
    dr m1 fun b26 o27 =>
    ldD D w_25 .val b26 o27 fun v28 =>
    dr m1 fun b29 o30 =>
    ldD D w_25 .sl b29 (o30 + 2) fun a31 =>
    ix a31 3 a2 fun b32 o33 =>
    ldD D w_25 (.int .i64) b32 o33 fun n34 =>
    ldD D w_25 .str b32 (o33 + 1) fun s35 =>
    ldD D w_25 .str b32 (o33 + 2) fun s36 =>
    dr m1 fun b37 o38 =>
    ldD D w_25 .sl b37 (o38 + 2) fun a39 =>
    ix a39 3 b3 fun b40 o41 =>
    ldD D w_25 (.int .i64) b40 o41 fun n42 =>
    ldD D w_25 .str b40 (o41 + 1) fun s43 =>
    ldD D w_25 .str b40 (o41 + 2) fun s44 =>
    callV Try.prog v28 [.agg [.int .i64 n34, .str s35, .str s36], .agg [.int .i64 n42, .str s43, .str s44]] w_25 (.one (.leaf (.int .i64))) fun n45 w_46 =>
    Mod D w_25 w_46 ∧
    joinK [.bool] (fun k47 =>
      ifK (decide (n45 < 0))
      (k47 true w_46)
      (ifK (n45 == 0)
        (k47 (decide (a2 < b3)) w_46)
        (k47 false w_46))) fun t648 w_49 =>
    K t648 w_49)

def N_merge_Merge_ahead_api_Record : Ann := (.mk none [] [] .done .nil (.mk none [] [] .done (.mk none [] [] .done (.mk (some [.tmp 25 (.leaf (.bool))]) [] [0, 1, 2] .done .nil .nil) .nil) (.mk none [] [] .done (.mk none [] [] (.take 0 (.take 1 (.take 2 (.take 3 (.take 4 (.take 5 (.take 6 (.take 7 (.take 8 (.take 9 (.take 10 (.take 11 (.take 12 (.take 13 (.take 14 (.take 15 (.take 16 (.take 17 (.eff 18 (.take 19 .done)))))))))))))))))))) .nil .nil) (.mk none [] [] .done (.mk (some [.tmp 6 (.leaf (.bool))]) [] [] .done .nil .nil) .nil))))

theorem is_merge_Merge_ahead_api_Record (m1 : PA) (a2 : Int) (b3 : Int) (K : Bool → World → Prop) (w : World) : WF Try.prog CS Try.f65 N_merge_Merge_ahead_api_Record (.one (.leaf (.bool))) [.leaf (.ptr m1), .leaf (.int .i64 a2), .leaf (.int .i64 b3)] K w = S_merge_Merge_ahead_api_Record m1 a2 b3 K w := by kernel_rfl
theorem go_merge_Merge_ahead_api_Record (m1 : PA) (a2 : Int) (b3 : Int) (K : Bool → World → Prop) (w : World) (h : S_merge_Merge_ahead_api_Record m1 a2 b3 K w) : callK Try.prog 65 [.leaf (.ptr m1), .leaf (.int .i64 a2), .leaf (.int .i64 b3)] w (.one (.leaf (.bool))) K := by
  refine WF_sound (n := N_merge_Merge_ahead_api_Record) CS_ok mixed Try.func65 ?_
  rw [is_merge_Merge_ahead_api_Record]
  exact h


end Go.Proofs.Ytfhojgammfkabaa
