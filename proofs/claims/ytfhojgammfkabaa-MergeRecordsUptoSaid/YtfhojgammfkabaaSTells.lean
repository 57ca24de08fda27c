/- Typed readings: MergeTells, and the reference Run. -/
import Derived.Test.YtfhojgammfkabaaS0
namespace Go.Proofs.Ytfhojgammfkabaa
open Go.Vw
-- 26 winnow/winnowref11.Run
def S_winnowref11_Run (from_1 : Sl) (K : Sl → Int → Sl → World → Prop) (w : World) : Prop :=
  al w 63 [.sl (⟨none, 0, 0⟩), .int .i64 0] fun b2 w_3 =>
  al w_3 63 [.sl (⟨none, 0, 0⟩), .int .i64 0] fun b4 w_5 =>
  mk w_5 3 8 [.int .i64 0] (from_1.len : Int) (from_1.len : Int) fun a6 w_7 =>
  mk w_7 3 8 [.int .i64 0] (from_1.len : Int) (from_1.len : Int) fun a8 w_9 =>
  joinK [] (fun k10 =>
    loopL [.int .i64] (fun i12 w_13 again11 =>
      ifK (decide (i12 < (from_1.len : Int)))
      (ix a8 1 i12 fun b14 o15 =>
        ld w_13 (.int .i64) b14 o15 fun n16 =>
        ix a8 1 i12 fun b17 o18 =>
        st w_13 b17 o18 [.int .i64 (w64 (n16 + 1))] fun w_19 =>
        joinK [.bool] (fun k20 =>
          ix from_1 2 i12 fun b21 o22 =>
          ld w_19 .sl b21 o22 fun a23 =>
          ifK ((a23.len : Int) == 0)
          (ix from_1 2 i12 fun b24 o25 =>
            ld w_19 (.int .i64) b24 (o25 + 1) fun n26 =>
            k20 (n26 != 0) w_19)
          (k20 false w_19)) fun t4327 w_28 =>
        ifK t4327
        (ix from_1 2 i12 fun b29 o30 =>
          ld w_28 (.int .i64) b29 (o30 + 1) fun n31 =>
          st w_28 b4 1 [.int .i64 n31] fun w_32 =>
          ld w_32 .sl b4 0 fun a33 =>
          ld w_32 (.int .i64) b4 1 fun n34 =>
          st w_32 b2 0 [.sl a33, .int .i64 n34] fun w_35 =>
          ld w_35 .sl b2 0 fun a36 =>
          ld w_35 (.int .i64) b2 1 fun n37 =>
          K a36 n37 a8 w_35)
        (again11 (w64 (i12 + 1)) w_28))
      (k10 w_13)) [.int .i64 0] w_9) fun w_38 =>
  loopL [] (fun w_40 again39 =>
    joinK [.int .i64] (fun k41 =>
      loopL [.int .i64, .int .i64] (fun best43 i44 w_45 again42 =>
        ifK (decide (i44 < (from_1.len : Int)))
        (joinK [.bool] (fun k46 =>
            drawK w_45 fun D w_47 =>
            ix a6 1 i44 fun b48 o49 =>
            ldD D w_47 (.int .i64) b48 o49 fun n50 =>
            ix from_1 2 i44 fun b51 o52 =>
            ldD D w_47 .sl b51 o52 fun a53 =>
            ifK (decide (n50 < (a53.len : Int)))
            (ifK (decide (best43 < 0))
              (k46 true w_47)
              (ix from_1 2 i44 fun b54 o55 =>
                ldD D w_47 .sl b54 o55 fun a56 =>
                ix a6 1 i44 fun b57 o58 =>
                ldD D w_47 (.int .i64) b57 o58 fun n59 =>
                ix a56 2 n59 fun b60 o61 =>
                ldD D w_47 (.int .i64) b60 o61 fun n62 =>
                ix from_1 2 best43 fun b63 o64 =>
                ldD D w_47 .sl b63 o64 fun a65 =>
                ix a6 1 best43 fun b66 o67 =>
                ldD D w_47 (.int .i64) b66 o67 fun n68 =>
                ix a65 2 n68 fun b69 o70 =>
                ldD D w_47 (.int .i64) b69 o70 fun n71 =>
                k46 (decide (n62 < n71)) w_47))
            (k46 false w_47)) fun t9972 w_73 =>
          joinK [.int .i64] (fun k74 =>
            ifK t9972
            (k74 i44 w_73)
            (k74 best43 w_73)) fun best75 w_76 =>
          again42 best75 (w64 (i44 + 1)) w_76)
        (k41 best43 w_45)) [.int .i64 (-1), .int .i64 0] w_40) fun best77 w_78 =>
    ifK (decide (best77 < 0))
    (ld w_78 .sl b4 0 fun a79 =>
      ld w_78 (.int .i64) b4 1 fun n80 =>
      st w_78 b2 0 [.sl a79, .int .i64 n80] fun w_81 =>
      ld w_81 .sl b2 0 fun a82 =>
      ld w_81 (.int .i64) b2 1 fun n83 =>
      K a82 n83 a8 w_81)
    (drawK w_78 fun D w_84 =>
      ldD D w_84 .sl b4 0 fun a85 =>
      ix from_1 2 best77 fun b86 o87 =>
      ldD D w_84 .sl b86 o87 fun a88 =>
      ix a6 1 best77 fun b89 o90 =>
      ldD D w_84 (.int .i64) b89 o90 fun n91 =>
      ix a88 2 n91 fun b92 o93 =>
      ldD D w_84 (.int .i64) b92 o93 fun n94 =>
      ldD D w_84 (.int .i64) b92 (o93 + 1) fun n95 =>
      al w_84 55 [.int .i64 n94, .int .i64 n95] fun b96 w_97 =>
      Mod D w_84 w_97 ∧
      ap w_97 55 2 16 [.int .i64 0, .int .i64 0] a85 (⟨some (b96, 0), 1, 1⟩) fun a98 w_99 =>
      Mod D w_84 w_99 ∧
      st w_99 b4 0 [.sl a98] fun w_100 =>
      drawK w_100 fun D w_101 =>
      ix from_1 2 best77 fun b102 o103 =>
      ldD D w_101 .sl b102 o103 fun a104 =>
      ix a6 1 best77 fun b105 o106 =>
      ldD D w_101 (.int .i64) b105 o106 fun n107 =>
      ix a104 2 n107 fun b108 o109 =>
      ldD D w_101 (.int .i64) b108 o109 fun n110 =>
      ix a6 1 best77 fun b111 o112 =>
      ld w_101 (.int .i64) b111 o112 fun n113 =>
      ix a6 1 best77 fun b114 o115 =>
      st w_101 b114 o115 [.int .i64 (w64 (n113 + 1))] fun w_116 =>
      ix a8 1 best77 fun b117 o118 =>
      ld w_116 (.int .i64) b117 o118 fun n119 =>
      ix a8 1 best77 fun b120 o121 =>
      st w_116 b120 o121 [.int .i64 (w64 (n119 + 1))] fun w_122 =>
      joinK [.bool] (fun k123 =>
        drawK w_122 fun D w_124 =>
        ix a6 1 best77 fun b125 o126 =>
        ldD D w_124 (.int .i64) b125 o126 fun n127 =>
        ix from_1 2 best77 fun b128 o129 =>
        ldD D w_124 .sl b128 o129 fun a130 =>
        ifK (n127 == (a130.len : Int))
        (ix from_1 2 best77 fun b131 o132 =>
          ldD D w_124 (.int .i64) b131 (o132 + 1) fun n133 =>
          k123 (n133 != 0) w_124)
        (k123 false w_124)) fun t163134 w_135 =>
      ifK t163134
      (ix from_1 2 best77 fun b136 o137 =>
        ld w_135 (.int .i64) b136 (o137 + 1) fun n138 =>
        st w_135 b4 1 [.int .i64 n138] fun w_139 =>
        ld w_139 .sl b4 0 fun a140 =>
        ld w_139 (.int .i64) b4 1 fun n141 =>
        st w_139 b2 0 [.sl a140, .int .i64 n141] fun w_142 =>
        ld w_142 .sl b2 0 fun a143 =>
        ld w_142 (.int .i64) b2 1 fun n144 =>
        K a143 n144 a8 w_142)
      (joinK [.bool] (fun k145 =>
          drawK w_135 fun D w_146 =>
          ix a6 1 best77 fun b147 o148 =>
          ldD D w_146 (.int .i64) b147 o148 fun n149 =>
          ix from_1 2 best77 fun b150 o151 =>
          ldD D w_146 .sl b150 o151 fun a152 =>
          ifK (decide (n149 < (a152.len : Int)))
          (ix from_1 2 best77 fun b153 o154 =>
            ldD D w_146 .sl b153 o154 fun a155 =>
            ix a6 1 best77 fun b156 o157 =>
            ldD D w_146 (.int .i64) b156 o157 fun n158 =>
            ix a155 2 n158 fun b159 o160 =>
            ldD D w_146 (.int .i64) b159 o160 fun n161 =>
            k145 (decide (n161 < n110)) w_146)
          (k145 false w_146)) fun t198162 w_163 =>
        ifK t198162
        (st w_163 b4 1 [.int .i64 61] fun w_164 =>
          ld w_164 .sl b4 0 fun a165 =>
          ld w_164 (.int .i64) b4 1 fun n166 =>
          st w_164 b2 0 [.sl a165, .int .i64 n166] fun w_167 =>
          ld w_167 .sl b2 0 fun a168 =>
          ld w_167 (.int .i64) b2 1 fun n169 =>
          K a168 n169 a8 w_167)
        (again39 w_163)))) [] w_38

def N_winnowref11_Run : Ann := (.mk none [] [] .done .nil (.mk none [] [] .done .nil (.mk none [] [] .done .nil (.mk none [] [] .done .nil (.mk none [] [] .done (.mk none [] [] .done .nil (.mk (some []) [] [0, 2, 4, 5, 6] .done (.mk none [.tmp 7 (.leaf (.int .i64))] [0, 2, 4, 5, 6] .done (.mk none [] [] .done .nil (.mk none [] [] .done (.mk none [] [] .done (.mk none [] [] .done .nil (.mk none [] [] .done (.mk (some [.tmp 43 (.leaf (.bool))]) [] [0, 2, 4, 5, 6, 7] .done .nil .nil) .nil)) .nil) .nil)) .nil) .nil)) (.mk none [] [] .done (.mk none [] [0, 2, 4, 5, 6] .done (.mk none [] [] .done (.mk none [] [] .done .nil (.mk none [] [] .done (.mk none [] [] .done .nil (.mk (some [.tmp 8 (.leaf (.int .i64))]) [] [0, 2, 4, 5, 6] .done (.mk none [.tmp 8 (.leaf (.int .i64)), .tmp 9 (.leaf (.int .i64))] [0, 2, 4, 5, 6] .done (.mk none [] [] .done .nil (.mk none [] [] .done (.mk none [] [] .done (.mk none [] [] .done (.mk (some [.tmp 99 (.leaf (.bool))]) [] [0, 2, 4, 5, 6, 8, 9] (.take 0 (.take 1 (.take 2 (.take 3 (.take 4 (.take 5 (.take 6 (.take 7 (.take 8 (.take 9 (.take 10 (.take 11 (.split 11 (.take 12 (.take 13 (.take 14 (.split 14 (.take 15 (.take 16 (.take 17 (.take 18 (.take 19 (.take 20 (.take 21 (.take 22 (.take 23 (.take 24 (.take 25 (.take 26 (.take 27 (.take 28 (.take 29 (.take 30 (.take 31 (.take 32 (.take 33 (.take 34 (.take 35 (.take 36 (.take 37 (.take 38 (.take 39 (.take 40 (.take 41 .done))))))))))))))))))))))))))) (.take 15 (.take 16 (.take 17 (.take 18 (.take 19 (.take 20 (.take 21 (.take 22 (.take 23 (.take 24 (.take 25 (.take 26 (.take 27 (.take 28 (.take 29 (.take 30 (.take 31 (.take 32 (.take 33 (.take 34 (.take 35 (.take 36 (.take 37 (.take 38 (.take 39 (.take 40 (.take 41 .done))))))))))))))))))))))))))))))) (.take 12 (.take 13 (.take 14 (.take 15 (.take 16 (.take 17 (.take 18 (.take 19 (.take 20 (.take 21 (.take 22 (.take 23 (.take 24 (.take 25 (.take 26 (.take 27 (.take 28 (.take 29 (.take 30 (.take 31 (.take 32 (.take 33 (.take 34 (.take 35 (.take 36 (.take 37 (.take 38 (.take 39 (.take 40 (.take 41 .done))))))))))))))))))))))))))))))))))))))))))) .nil .nil) (.mk (some [.tmp 8 (.leaf (.int .i64))]) [] [0, 2, 4, 5, 6, 9] .done .nil .nil)) .nil) .nil)) .nil) .nil)) (.mk none [] [] .done .nil (.mk none [] [] .done (.mk none [] [] (.take 0 (.take 1 (.take 2 (.take 3 (.take 4 (.take 5 (.take 6 (.take 7 (.take 8 (.take 9 (.take 10 (.take 11 (.take 12 (.eff 13 (.eff 14 (.take 15 (.last 16))))))))))))))))) .nil .nil) (.mk none [] [] .done (.mk none [] [] (.take 0 (.take 1 (.take 2 (.take 3 (.take 4 (.take 5 (.take 6 (.take 7 (.take 8 (.take 9 (.take 10 (.take 11 (.take 12 .done))))))))))))) .nil .nil) (.mk none [] [] .done .nil (.mk none [] [] .done .nil (.mk none [] [] .done (.mk none [] [] .done (.mk (some [.tmp 163 (.leaf (.bool))]) [] [0, 2, 4, 5, 6, 8, 10] (.take 0 (.take 1 (.take 2 (.take 3 (.take 4 (.take 5 (.take 6 (.take 7 (.take 8 (.take 9 (.take 10 (.take 11 (.split 11 (.take 12 (.take 13 (.take 14 (.take 15 (.take 16 (.take 17 (.take 18 .done))))))) (.take 12 (.take 13 (.take 14 (.take 15 (.take 16 (.take 17 (.take 18 .done)))))))))))))))))))) .nil .nil) .nil) (.mk none [] [] .done (.mk (some [.tmp 198 (.leaf (.bool))]) [] [0, 2, 4, 5, 6] (.take 0 (.take 1 (.take 2 (.take 3 (.take 4 (.take 5 (.take 6 (.take 7 (.take 8 (.take 9 (.take 10 (.take 11 (.split 11 (.take 12 (.take 13 (.take 14 (.take 15 (.take 16 (.take 17 (.take 18 (.take 19 (.take 20 (.take 21 (.take 22 (.take 23 (.take 24 (.take 25 (.take 26 .done))))))))))))))) (.take 12 (.take 13 (.take 14 (.take 15 (.take 16 (.take 17 (.take 18 (.take 19 (.take 20 (.take 21 (.take 22 (.take 23 (.take 24 (.take 25 (.take 26 .done)))))))))))))))))))))))))))) .nil .nil) .nil))))))))) .nil) .nil) .nil))))))

theorem is_winnowref11_Run (from_1 : Sl) (K : Sl → Int → Sl → World → Prop) (w : World) : WF Try.prog CS Try.f26 N_winnowref11_Run (.tup [.agg [.sl, .int .i64], .leaf (.sl)]) [.leaf (.sl from_1)] K w = S_winnowref11_Run from_1 K w := by kernel_rfl
theorem go_winnowref11_Run (from_1 : Sl) (K : Sl → Int → Sl → World → Prop) (w : World) (h : S_winnowref11_Run from_1 K w) : callK Try.prog 26 [.leaf (.sl from_1)] w (.tup [.agg [.sl, .int .i64], .leaf (.sl)]) K := by
  refine WF_sound (n := N_winnowref11_Run) CS_ok mixed Try.func26 ?_
  rw [is_winnowref11_Run]
  exact h

-- 6 winnow/winnowlaw11.MergeTells
def S_winnowlaw11_MergeTells (from_1 : Sl) (K : Bool → World → Prop) (w : World) : Prop :=
  al w 4 [.lit false] fun b2 w_3 =>
  callK Try.prog 20 [.leaf (.sl from_1)] w_3 (.one (.leaf (.sl))) fun a4 w_5 =>
  callK Try.prog 23 [.leaf (.sl a4)] w_5 (.tup [.leaf (.ptr), .leaf (.int .i64)]) fun p6 n7 w_8 =>
  ifK (decide (64 < (from_1.len : Int)))
  (joinK [] (fun k9 =>
      ifK (n7 == 3)
      (ifK p6.isNone
        (callK Try.prog 24 [.leaf (.sl a4)] w_8 (.one (.leaf (.int .i64))) fun n10 w_11 =>
          st w_11 b2 0 [.bool (n10 == 0)] fun w_12 =>
          k9 w_12)
        (st w_8 b2 0 [.lit false] fun w_13 =>
          k9 w_13))
      (st w_8 b2 0 [.lit false] fun w_14 =>
        k9 w_14)) fun w_15 =>
    ld w_15 .bool b2 0 fun c16 =>
    K c16 w_15)
  (joinK [.bool] (fun k17 =>
      ifK (n7 != 0)
      (k17 true w_8)
      (ifK p6.isNone
        (k17 true w_8)
        (callK Try.prog 24 [.leaf (.sl a4)] w_8 (.one (.leaf (.int .i64))) fun n18 w_19 =>
          ifK (n18 != 0)
          (k17 true w_19)
          (callK Try.prog 25 [.leaf (.ptr p6)] w_19 (.one (.leaf (.int .i64))) fun n20 w_21 =>
            k17 (n20 != 0) w_21)))) fun t5422 w_23 =>
    ifK t5422
    (st w_23 b2 0 [.lit false] fun w_24 =>
      ld w_24 .bool b2 0 fun c25 =>
      K c25 w_24)
    (callK Try.prog 26 [.leaf (.sl from_1)] w_23 (.tup [.agg [.sl, .int .i64], .leaf (.sl)]) fun a26 n27 a28 w_29 =>
      al w_29 63 [.sl (⟨none, 0, 0⟩), .int .i64 0] fun b30 w_31 =>
      st w_31 b30 0 [.sl a26, .int .i64 n27] fun w_32 =>
      joinK [] (fun k33 =>
        loopL [.int .i64] (fun i35 w_36 again34 =>
          ld w_36 .sl b30 0 fun a37 =>
          ifK (decide (i35 < (a37.len : Int)))
          (callK Try.prog 27 [.leaf (.ptr p6)] w_36 (.tup [.agg [.int .i64, .int .i64], .leaf (.bool), .leaf (.int .i64)]) fun n38 n39 c40 n41 w_42 =>
            al w_42 55 [.int .i64 0, .int .i64 0] fun b43 w_44 =>
            st w_44 b43 0 [.int .i64 n38, .int .i64 n39] fun w_45 =>
            joinK [.bool] (fun k46 =>
              drawK w_45 fun D w_47 =>
              ifK (!c40)
              (k46 true w_47)
              (ifK (n41 != 0)
                (k46 true w_47)
                (ldD D w_47 (.int .i64) b43 0 fun n48 =>
                  ldD D w_47 (.int .i64) b43 1 fun n49 =>
                  ldD D w_47 .sl b30 0 fun a50 =>
                  ix a50 2 i35 fun b51 o52 =>
                  ldD D w_47 (.int .i64) b51 o52 fun n53 =>
                  ldD D w_47 (.int .i64) b51 (o52 + 1) fun n54 =>
                  opF Try.prog (vS (do eqGuard .neq 55 (.tmp 80) (.tmp 85) (.agg #[(LV.toV (.int .i64 n48)), (LV.toV (.int .i64 n49))]) (.agg #[(LV.toV (.int .i64 n53)), (LV.toV (.int .i64 n54))]); binOp .neq 55 (.agg #[(LV.toV (.int .i64 n48)), (LV.toV (.int .i64 n49))]) (.agg #[(LV.toV (.int .i64 n53)), (LV.toV (.int .i64 n54))]))) w_47 (.one (.leaf (.bool))) fun c56 w_55 =>
                  Mod D w_47 w_55 ∧
                  ifK c56
                  (k46 true w_55)
                  (callK Try.prog 24 [.leaf (.sl a4)] w_55 (.one (.leaf (.int .i64))) fun n57 w_58 =>
                    Mod D w_47 w_58 ∧
                    ifK (n57 != (w64 ((a4.len : Int) + i35)))
                    (k46 true w_58)
                    (callK Try.prog 25 [.leaf (.ptr p6)] w_58 (.one (.leaf (.int .i64))) fun n59 w_60 =>
                      Mod D w_47 w_60 ∧
                      k46 (n59 != 0) w_60))))) fun t10161 w_62 =>
            ifK t10161
            (st w_62 b2 0 [.lit false] fun w_63 =>
              ld w_63 .bool b2 0 fun c64 =>
              K c64 w_63)
            (again34 (w64 (i35 + 1)) w_62))
          (k33 w_36)) [.int .i64 0] w_32) fun w_65 =>
      joinK [] (fun k66 =>
        loopL [.int .i64] (fun i68 w_69 again67 =>
          ifK (decide (i68 < 3))
          (callK Try.prog 27 [.leaf (.ptr p6)] w_69 (.tup [.agg [.int .i64, .int .i64], .leaf (.bool), .leaf (.int .i64)]) fun n70 n71 c72 n73 w_74 =>
            al w_74 55 [.int .i64 0, .int .i64 0] fun b75 w_76 =>
            st w_76 b75 0 [.int .i64 n70, .int .i64 n71] fun w_77 =>
            joinK [.bool] (fun k78 =>
              drawK w_77 fun D w_79 =>
              ifK c72
              (k78 true w_79)
              (ldD D w_79 (.int .i64) b30 1 fun n80 =>
                ifK (n73 != n80)
                (k78 true w_79)
                (ldD D w_79 (.int .i64) b75 0 fun n81 =>
                  ldD D w_79 (.int .i64) b75 1 fun n82 =>
                  opF Try.prog (vS (do eqGuard .neq 55 (.tmp 120) (.tmp 121) (.agg #[(LV.toV (.int .i64 n81)), (LV.toV (.int .i64 n82))]) (.agg #[(LV.toV (.int .i64 0)), (LV.toV (.int .i64 0))]); binOp .neq 55 (.agg #[(LV.toV (.int .i64 n81)), (LV.toV (.int .i64 n82))]) (.agg #[(LV.toV (.int .i64 0)), (LV.toV (.int .i64 0))]))) w_79 (.one (.leaf (.bool))) fun c84 w_83 =>
                  Mod D w_79 w_83 ∧
                  ifK c84
                  (k78 true w_83)
                  (ldD D w_79 (.int .i64) b30 1 fun n85 =>
                    callK Try.prog 25 [.leaf (.ptr p6)] w_83 (.one (.leaf (.int .i64))) fun n86 w_87 =>
                    Mod D w_79 w_87 ∧
                    k78 (n86 != n85) w_87)))) fun t13088 w_89 =>
            ifK t13088
            (st w_89 b2 0 [.lit false] fun w_90 =>
              ld w_90 .bool b2 0 fun c91 =>
              K c91 w_90)
            (again67 (w64 (i68 + 1)) w_89))
          (k66 w_69)) [.int .i64 0] w_65) fun w_92 =>
      callK Try.prog 28 [.leaf (.ptr p6)] w_92 (.one (.leaf (.val))) fun v93 w_94 =>
      nilF v93 fun c95 =>
      ifK c95
      (st w_94 b2 0 [.lit false] fun w_96 =>
        ld w_96 .bool b2 0 fun c97 =>
        K c97 w_96)
      (rangeK Try.prog [.agg [.int .i64, .int .i64]] v93 none w_94 (fun rc107 x_0_105 x_1_106 w_99 beg102 next103 leave104 =>
          beg102 w_99 fun w_108 =>
          st w_108 b2 0 [.lit false] fun w_109 =>
          leave104 0 w_109) (  fun r110 w_111 =>
          joinK [] (fun k112 =>
            loopL [.int .i64] (fun i114 w_115 again113 =>
              ifK (decide (i114 < (a4.len : Int)))
              (joinK [.bool] (fun k116 =>
                  drawK w_115 fun D w_117 =>
                  ix a4 1 i114 fun b118 o119 =>
                  ldD D w_117 .ptr b118 o119 fun p120 =>
                  dr p120 fun b121 o122 =>
                  ldD D w_117 .bool b121 (o122 + 5) fun c123 =>
                  ifK c123
                  (k116 true w_117)
                  (ix a4 1 i114 fun b124 o125 =>
                    ldD D w_117 .ptr b124 o125 fun p126 =>
                    dr p126 fun b127 o128 =>
                    ldD D w_117 (.int .i64) b127 (o128 + 3) fun n129 =>
                    ix a28 1 i114 fun b130 o131 =>
                    ldD D w_117 (.int .i64) b130 o131 fun n132 =>
                    k116 (n129 != n132) w_117)) fun t163133 w_134 =>
                ifK t163133
                (st w_134 b2 0 [.lit false] fun w_135 =>
                  closeK (r110 :: []) w_135 fun w_136 =>
                  ld w_136 .bool b2 0 fun c137 =>
                  K c137 w_136)
                (again113 (w64 (i114 + 1)) w_134))
              (k112 w_115)) [.int .i64 0] w_111) fun w_138 =>
          st w_138 b2 0 [.lit true] fun w_139 =>
          closeK (r110 :: []) w_139 fun w_140 =>
          ld w_140 .bool b2 0 fun c141 =>
          K c141 w_140) [  fun r142 w_143 =>
          closeK (r142 :: []) w_143 fun w_144 =>
          ld w_144 .bool b2 0 fun c145 =>
          K c145 w_144])))

def N_winnowlaw11_MergeTells : Ann := (.mk none [] [] .done .nil (.mk none [] [] .done .nil (.mk none [] [] .done .nil (.mk none [] [] .done (.mk none [] [] .done .nil (.mk none [] [] .done (.mk none [] [] .done (.mk (some []) [] [2] .done .nil .nil) .nil) .nil)) (.mk none [] [] .done (.mk none [] [] .done (.mk (some [.tmp 54 (.leaf (.bool))]) [] [0, 2, 3, 4] .done .nil .nil) .nil) (.mk none [] [] .done .nil (.mk none [] [] .done (.mk none [] [] .done .nil (.mk (some []) [] [2, 3, 4, 6, 7] .done (.mk none [.tmp 8 (.leaf (.int .i64))] [2, 3, 4, 6, 7] .done (.mk none [] [] .done .nil (.mk none [] [] .done (.mk none [] [] .done (.mk none [] [] .done .nil (.mk none [] [] .done (.mk (some [.tmp 101 (.leaf (.bool))]) [] [2, 3, 4, 6, 7, 8] (.take 0 (.take 1 (.take 2 (.split 2 (.take 3 (.take 4 (.take 5 (.take 6 (.take 7 (.take 8 (.take 9 (.take 10 (.take 11 (.take 12 (.take 13 (.take 14 (.take 15 (.take 16 (.take 17 (.take 18 (.take 19 (.take 20 (.take 21 (.take 22 (.take 23 (.take 24 (.take 25 (.take 26 (.take 27 (.take 28 .done)))))))))))))))))))))))))) (.take 3 (.take 4 (.take 5 (.take 6 (.split 6 (.take 7 (.take 8 (.take 9 (.take 10 (.take 11 (.take 12 (.take 13 (.take 14 (.take 15 (.take 16 (.take 17 (.take 18 (.take 19 (.take 20 (.take 21 (.take 22 (.take 23 (.take 24 (.take 25 (.take 26 (.take 27 (.take 28 .done)))))))))))))))))))))) (.take 7 (.take 8 (.take 9 (.take 10 (.take 11 (.take 12 (.eff 13 (.take 14 (.take 15 (.split 15 (.take 16 (.take 17 (.take 18 (.take 19 (.take 20 (.take 21 (.take 22 (.take 23 (.take 24 (.take 25 (.take 26 (.take 27 (.take 28 .done))))))))))))) (.take 16 (.take 18 (.take 19 (.take 20 (.take 21 (.eff 17 (.take 22 (.take 23 (.take 24 (.split 24 (.take 25 (.take 26 (.take 27 (.take 28 .done)))) (.take 25 (.eff 26 (.take 27 (.take 28 .done))))))))))))))))))))))))))))))))) .nil .nil) .nil)) .nil) .nil)) .nil) .nil)) (.mk none [] [] .done (.mk none [] [] .done .nil (.mk (some []) [] [2, 3, 4, 7] .done (.mk none [.tmp 12 (.leaf (.int .i64))] [2, 3, 4, 6, 7] .done (.mk none [] [] .done .nil (.mk none [] [] .done (.mk none [] [] .done (.mk none [] [] .done .nil (.mk none [] [] .done (.mk (some [.tmp 130 (.leaf (.bool))]) [] [2, 3, 4, 6, 7, 12] (.take 0 (.take 1 (.split 1 (.take 2 (.take 3 (.take 4 (.take 5 (.take 6 (.take 7 (.take 8 (.take 9 (.take 10 (.take 11 (.take 12 (.take 13 (.take 14 (.take 15 (.take 16 (.take 17 (.take 18 .done))))))))))))))))) (.take 2 (.take 3 (.take 4 (.take 5 (.take 6 (.take 7 (.split 7 (.take 8 (.take 9 (.take 10 (.take 11 (.take 12 (.take 13 (.take 14 (.take 15 (.take 16 (.take 17 (.take 18 .done))))))))))) (.take 8 (.take 9 (.eff 10 (.take 11 (.take 12 (.split 12 (.take 13 (.take 14 (.take 15 (.take 16 (.take 17 (.take 18 .done)))))) (.take 13 (.take 15 (.take 16 (.eff 14 (.take 17 (.take 18 .done)))))))))))))))))))))) .nil .nil) .nil)) .nil) .nil)) .nil) .nil)) (.mk none [] [] .done .nil (.mk none [] [] .done .nil (.mk none [] [] .done (.mk none [] [] .done .nil (.mk none [] [] .done (.range [.agg [.int .i64, .int .i64]] .nil .nil) .nil)) (.mk none [] [] .done (.mk none [] [] .done .nil (.mk (some []) [] [2] .done (.mk none [.tmp 17 (.leaf (.int .i64))] [2, 3, 7] .done (.mk none [] [] .done .nil (.mk none [] [] .done (.mk none [] [] .done (.mk none [] [] .done (.mk (some [.tmp 163 (.leaf (.bool))]) [] [2, 3, 7, 17] (.take 0 (.take 1 (.take 2 (.take 3 (.take 4 (.take 5 (.take 6 (.take 7 (.split 7 (.take 8 (.take 9 (.take 10 (.take 11 (.take 12 (.take 13 (.take 14 (.take 15 (.take 16 (.take 17 (.take 18 (.take 19 (.take 20 .done))))))))))))) (.take 8 (.take 9 (.take 10 (.take 11 (.take 12 (.take 13 (.take 14 (.take 15 (.take 16 (.take 17 (.take 18 (.take 19 (.take 20 .done)))))))))))))))))))))) .nil .nil) .nil) .nil) .nil)) .nil) .nil)) .nil))))))))))))

theorem is_winnowlaw11_MergeTells (from_1 : Sl) (K : Bool → World → Prop) (w : World) : WF Try.prog CS Try.f6 N_winnowlaw11_MergeTells (.one (.leaf (.bool))) [.leaf (.sl from_1)] K w = S_winnowlaw11_MergeTells from_1 K w := by kernel_rfl
theorem go_winnowlaw11_MergeTells (from_1 : Sl) (K : Bool → World → Prop) (w : World) (h : S_winnowlaw11_MergeTells from_1 K w) : callK Try.prog 6 [.leaf (.sl from_1)] w (.one (.leaf (.bool))) K := by
  refine WF_sound (n := N_winnowlaw11_MergeTells) CS_ok mixed Try.func6 ?_
  rw [is_winnowlaw11_MergeTells]
  exact h


end Go.Proofs.Ytfhojgammfkabaa
