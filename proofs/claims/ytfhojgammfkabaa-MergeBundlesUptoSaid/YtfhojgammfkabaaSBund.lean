/- Typed readings: MergeBundles. -/
import Derived.Test.YtfhojgammfkabaaS0
namespace Go.Proofs.Ytfhojgammfkabaa
open Go.Vw
-- 8 winnow/winnowlaw11.MergeBundles
def S_winnowlaw11_MergeBundles (from_1 : Sl) (cuts2 : Sl) (K : Bool → World → Prop) (w : World) : Prop :=
  al w 4 [.lit false] fun b3 w_4 =>
  callK Try.prog 18 [.leaf (.sl from_1)] w_4 (.one (.leaf (.sl))) fun a5 w_6 =>
  al w_6 3 [.int .i64 0] fun b7 w_8 =>
  st w_8 b7 0 [.int .i64 0] fun w_9 =>
  joinK [] (fun k10 =>
    loopL [.int .i64] (fun i12 w_13 again11 =>
      ifK (decide (i12 < (a5.len : Int)))
      (drawK w_13 fun D w_14 =>
        ldD D w_14 (.int .i64) b7 0 fun n15 =>
        ix a5 2 i12 fun b16 o17 =>
        ldD D w_14 .sl b16 o17 fun a18 =>
        st w_14 b7 0 [.int .i64 (w64 (n15 + (a18.len : Int)))] fun w_19 =>
        again11 (w64 (i12 + 1)) w_19)
      (k10 w_13)) [.int .i64 0] w_9) fun w_20 =>
  joinK [.sl] (fun k21 =>
    loopL [.sl, .sl, .int .i64, .int .i64] (fun cuts23 merges24 at_25 i26 w_27 again22 =>
      ifK (decide (at_25 < (a5.len : Int)))
      (joinK [.bool] (fun k28 =>
          ifK (decide (i26 < (cuts23.len : Int)))
          (ix cuts23 1 i26 fun b29 o30 =>
            ld w_27 (.int .i64) b29 o30 fun n31 =>
            ifK (decide (0 ≤ n31))
            (ix cuts23 1 i26 fun b32 o33 =>
              ld w_27 (.int .i64) b32 o33 fun n34 =>
              k28 (decide (n34 < w64 ((a5.len : Int) - at_25))) w_27)
            (k28 false w_27))
          (k28 false w_27)) fun t6435 w_36 =>
        joinK [.int .i64] (fun k37 =>
          ifK t6435
          (ix cuts23 1 i26 fun b38 o39 =>
            ld w_36 (.int .i64) b38 o39 fun n40 =>
            k37 (w64 (at_25 + n40)) w_36)
          (k37 (a5.len : Int) w_36)) fun end_41 w_42 =>
        slx a5 2 (some at_25) (some end_41) none fun s43 =>
        callK Try.prog 20 [.leaf (.sl s43)] w_42 (.one (.leaf (.sl))) fun a44 w_45 =>
        callK Try.prog 23 [.leaf (.sl a44)] w_45 (.tup [.leaf (.ptr), .leaf (.int .i64)]) fun p46 n47 w_48 =>
        joinK [.bool] (fun k49 =>
          ifK (n47 != 0)
          (k49 true w_48)
          (k49 p46.isNone w_48)) fun t8550 w_51 =>
        ifK t8550
        (st w_51 b3 0 [.lit false] fun w_52 =>
          ld w_52 .bool b3 0 fun c53 =>
          K c53 w_52)
        (al w_51 79 [.ptr p46] fun b54 w_55 =>
          (∀ x ∈ [(.func (.func 29) #[(LV.toV (.ptr (some (b54, 0))))] #[] : Value)], isCell x = true) ∧
          al w_55 68 [.val (.func (.func 29) #[(LV.toV (.ptr (some (b54, 0))))] #[])] fun b56 w_57 =>
          ap w_57 68 1 8 [.val .nilFunc] merges24 (⟨some (b56, 0), 1, 1⟩) fun a58 w_59 =>
          joinK [.sl] (fun k60 =>
            ifK ((a58.len : Int) == 63)
            (k60 (⟨none, 0, 0⟩) w_59)
            (k60 cuts23 w_59)) fun cuts61 w_62 =>
          again22 cuts61 a58 end_41 (w64 (i26 + 1)) w_62))
      (k21 merges24 w_27)) [.sl cuts2, .sl (⟨none, 0, 0⟩), .int .i64 0, .int .i64 0] w_20) fun merges63 w_64 =>
  callK Try.prog 30 [.leaf (.val (.func (.func 31) #[] #[])), .leaf (.sl merges63)] w_64 (.tup [.leaf (.ptr), .leaf (.int .i64)]) fun p65 n66 w_67 =>
  joinK [.bool] (fun k68 =>
    ifK (n66 != 0)
    (k68 true w_67)
    (k68 p65.isNone w_67)) fun t10869 w_70 =>
  ifK t10869
  (st w_70 b3 0 [.lit false] fun w_71 =>
    ld w_71 .bool b3 0 fun c72 =>
    K c72 w_71)
  (al w_70 43 [.sl (⟨none, 0, 0⟩)] fun b73 w_74 =>
    callK Try.prog 28 [.leaf (.ptr p65)] w_74 (.one (.leaf (.val))) fun v75 w_76 =>
    nilF v75 fun c77 =>
    ifK c77
    (st w_76 b3 0 [.lit false] fun w_78 =>
      ld w_78 .bool b3 0 fun c79 =>
      K c79 w_78)
    (rangeK Try.prog [.agg [.int .i64, .int .i64]] v75 none w_76 (fun rc89 x_0_87 x_1_88 w_81 beg84 next85 leave86 =>
        al w_81 55 [.int .i64 0, .int .i64 0] fun b90 w_91 =>
        st w_91 b90 0 [.int .i64 x_0_87, .int .i64 x_1_88] fun w_92 =>
        beg84 w_92 fun w_93 =>
        ld w_93 .sl b73 0 fun a94 =>
        ld w_93 (.int .i64) b90 0 fun n95 =>
        ld w_93 (.int .i64) b90 1 fun n96 =>
        al w_93 55 [.int .i64 n95, .int .i64 n96] fun b97 w_98 =>
        ap w_98 55 2 16 [.int .i64 0, .int .i64 0] a94 (⟨some (b97, 0), 1, 1⟩) fun a99 w_100 =>
        st w_100 b73 0 [.sl a99] fun w_101 =>
        ld w_101 .sl b73 0 fun a102 =>
        ld w_101 (.int .i64) b7 0 fun n103 =>
        ifK (decide (n103 < (a102.len : Int)))
        (st w_101 b3 0 [.lit false] fun w_104 =>
          leave86 0 w_104)
        (next85 w_101)) (  fun r105 w_106 =>
        joinK [] (fun k107 =>
          callK Try.prog 25 [.leaf (.ptr p65)] w_106 (.one (.leaf (.int .i64))) fun n108 w_109 =>
          ifK (n108 == 0)
          (ld w_109 .sl b73 0 fun a110 =>
            callK Try.prog 21 [.leaf (.sl a110), .leaf (.sl a5)] w_109 (.one (.leaf (.bool))) fun c111 w_112 =>
            ifK c111
            (callK Try.prog 22 [] w_112 (.one (.leaf (.bool))) fun c113 w_114 =>
              st w_114 b3 0 [.bool c113] fun w_115 =>
              k107 w_115)
            (st w_112 b3 0 [.lit false] fun w_116 =>
              k107 w_116))
          (st w_109 b3 0 [.lit false] fun w_117 =>
            k107 w_117)) fun w_118 =>
        closeK (r105 :: []) w_118 fun w_119 =>
        ld w_119 .bool b3 0 fun c120 =>
        K c120 w_119) [  fun r121 w_122 =>
        closeK (r121 :: []) w_122 fun w_123 =>
        ld w_123 .bool b3 0 fun c124 =>
        K c124 w_123]))

def N_winnowlaw11_MergeBundles : Ann := (.mk none [] [] .done .nil (.mk none [] [] .done .nil (.mk none [] [] .done .nil (.mk none [] [] .done .nil (.mk none [] [] .done (.mk none [] [] .done .nil (.mk (some []) [] [0, 1, 4, 5, 6] .done (.mk none [.tmp 7 (.leaf (.int .i64))] [0, 1, 4, 5, 6] .done (.mk none [] [] .done .nil (.mk none [] [] .done (.mk none [] [] .done (.mk none [] [] (.take 0 (.take 1 (.take 2 (.take 3 (.take 4 (.take 5 (.take 6 (.take 7 (.last 8))))))))) .nil .nil) .nil) .nil)) .nil) .nil)) (.mk none [] [] .done .nil (.mk none [] [] .done (.mk none [] [] .done .nil (.mk (some [.tmp 5 (.leaf (.sl))]) [] [0, 4, 6] .done (.mk none [.tmp 1 (.leaf (.sl)), .tmp 5 (.leaf (.sl)), .tmp 8 (.leaf (.int .i64)), .tmp 9 (.leaf (.int .i64))] [0, 4, 6] .done (.mk none [] [] .done .nil (.mk none [] [] .done (.mk none [] [] .done (.mk none [] [] .done .nil (.mk none [] [] .done (.mk none [] [] .done (.mk (some [.tmp 64 (.leaf (.bool))]) [] [0, 1, 4, 5, 6, 8, 9, 10] .done .nil .nil) (.mk (some [.tmp 10 (.leaf (.int .i64))]) [] [0, 1, 4, 5, 6, 8, 9] .done .nil .nil)) (.mk none [] [] .done .nil (.mk none [] [] .done (.mk none [] [] .done (.mk (some [.tmp 85 (.leaf (.bool))]) [] [0, 1, 4, 5, 6, 9, 10, 11] .done .nil .nil) .nil) (.mk none [] [] .done .nil (.mk none [] [] .done .nil (.mk none [] [] .done .nil (.mk none [] [] .done .nil (.mk (some [.tmp 1 (.leaf (.sl))]) [] [0, 4, 5, 6, 8, 9] .done .nil .nil))))))))) .nil) .nil)) .nil) .nil)) (.mk none [] [] .done .nil (.mk none [] [] .done (.mk none [] [] .done (.mk (some [.tmp 108 (.leaf (.bool))]) [] [0, 4, 6, 14] .done .nil .nil) .nil) (.mk none [] [] .done .nil (.mk none [] [] .done .nil (.mk none [] [] .done .nil (.mk none [] [] .done (.mk none [] [] .done .nil (.mk none [] [] .done (.range [.agg [.int .i64, .int .i64]] .nil .nil) .nil)) (.mk none [] [] .done (.mk (some []) [] [4] .done .nil .nil) .nil))))))))))))))

theorem is_winnowlaw11_MergeBundles (from_1 : Sl) (cuts2 : Sl) (K : Bool → World → Prop) (w : World) : WF Try.prog CS Try.f8 N_winnowlaw11_MergeBundles (.one (.leaf (.bool))) [.leaf (.sl from_1), .leaf (.sl cuts2)] K w = S_winnowlaw11_MergeBundles from_1 cuts2 K w := by kernel_rfl
theorem go_winnowlaw11_MergeBundles (from_1 : Sl) (cuts2 : Sl) (K : Bool → World → Prop) (w : World) (h : S_winnowlaw11_MergeBundles from_1 cuts2 K w) : callK Try.prog 8 [.leaf (.sl from_1), .leaf (.sl cuts2)] w (.one (.leaf (.bool))) K := by
  refine WF_sound (n := N_winnowlaw11_MergeBundles) CS_ok mixed Try.func8 ?_
  rw [is_winnowlaw11_MergeBundles]
  exact h

-- 29 (*winnow/winnowlaw11.Inner).next
def S_winnowlaw11_Inner_next (x1 : PA) (K : Int → Int → Bool → Int → World → Prop) (w : World) : Prop :=
  al w 55 [.int .i64 0, .int .i64 0] fun b2 w_3 =>
  dr x1 fun b4 o5 =>
  ld w_3 .ptr b4 o5 fun p6 =>
  callK Try.prog 27 [.leaf (.ptr p6)] w_3 (.tup [.agg [.int .i64, .int .i64], .leaf (.bool), .leaf (.int .i64)]) fun n7 n8 c9 n10 w_11 =>
  st w_11 b2 0 [.int .i64 n7, .int .i64 n8] fun w_12 =>
  ld w_12 (.int .i64) b2 0 fun n13 =>
  ld w_12 (.int .i64) b2 1 fun n14 =>
  K n13 n14 c9 n10 w_12

def N_winnowlaw11_Inner_next : Ann := .nil

theorem is_winnowlaw11_Inner_next (x1 : PA) (K : Int → Int → Bool → Int → World → Prop) (w : World) : WF Try.prog CS Try.f29 N_winnowlaw11_Inner_next (.tup [.agg [.int .i64, .int .i64], .leaf (.bool), .leaf (.int .i64)]) [.leaf (.ptr x1)] K w = S_winnowlaw11_Inner_next x1 K w := by kernel_rfl
theorem go_winnowlaw11_Inner_next (x1 : PA) (K : Int → Int → Bool → Int → World → Prop) (w : World) (h : S_winnowlaw11_Inner_next x1 K w) : callK Try.prog 29 [.leaf (.ptr x1)] w (.tup [.agg [.int .i64, .int .i64], .leaf (.bool), .leaf (.int .i64)]) K := by
  refine WF_sound (n := N_winnowlaw11_Inner_next) CS_ok mixed Try.func29 ?_
  rw [is_winnowlaw11_Inner_next]
  exact h


end Go.Proofs.Ytfhojgammfkabaa
