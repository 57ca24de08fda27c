/- Readings: ExtsortNil. -/
import Derived.Test.YtjefbjfifjjpmadGreatS0
namespace Go.Proofs.YtjefbjfifjjpmadGreat
open Go.Vw
-- 3 winnow/winnowlaw12.ExtsortNil
def S_winnowlaw12_ExtsortNil (r_0_1 : Int) (r_1_2 : List UInt8) (r_2_3 : List UInt8) (K : Bool → World → Prop) (w : World) : Prop :=
  al w 23 [.int .i64 r_0_1, .str r_1_2, .str r_2_3] fun b4 w_5 =>
  callK Tryz.prog 4 [.leaf (.ptr none)] w_5 (.tup [.leaf (.ptr), .leaf (.int .i64)]) fun p6 n7 w_8 =>
  callK Tryz.prog 5 [.leaf (.ptr none)] w_8 (.tup [.agg [.int .i64, .str, .str], .leaf (.bool), .leaf (.int .i64)]) fun n9 s10 s11 c12 n13 w_14 =>
  al w_14 23 [.int .i64 0, .str [], .str []] fun b15 w_16 =>
  st w_16 b15 0 [.int .i64 n9, .str s10, .str s11] fun w_17 =>
  joinK [.bool] (fun k18 =>
    ld w_17 (.int .i64) b4 0 fun n19 =>
    ld w_17 .str b4 1 fun s20 =>
    ld w_17 .str b4 2 fun s21 =>
    callK Tryz.prog 6 [.leaf (.ptr none), .agg [.int .i64 n19, .str s20, .str s21]] w_17 (.one (.leaf (.int .i64))) fun n22 w_23 =>
    ifK (n22 == 1)
    (ifK p6.isNone
      (ifK (n7 == 1)
        (callK Tryz.prog 7 [.leaf (.ptr none)] w_23 (.one (.agg [.int .i64, .int .i64, .int .i64])) fun n24 n25 n26 w_27 =>
          opF Tryz.prog (vS (do eqGuard .eql 33 (.tmp 35) (.tmp 36) (.agg #[(LV.toV (.int .i64 n24)), (LV.toV (.int .i64 n25)), (LV.toV (.int .i64 n26))]) (.agg #[(LV.toV (.int .i64 0)), (LV.toV (.int .i64 0)), (LV.toV (.int .i64 0))]); binOp .eql 33 (.agg #[(LV.toV (.int .i64 n24)), (LV.toV (.int .i64 n25)), (LV.toV (.int .i64 n26))]) (.agg #[(LV.toV (.int .i64 0)), (LV.toV (.int .i64 0)), (LV.toV (.int .i64 0))]))) w_27 (.one (.leaf (.bool))) fun c29 w_28 =>
          ifK c29
          (ld w_28 (.int .i64) b15 0 fun n30 =>
            ld w_28 .str b15 1 fun s31 =>
            ld w_28 .str b15 2 fun s32 =>
            opF Tryz.prog (vS (do eqGuard .eql 23 (.tmp 40) (.tmp 41) (.agg #[(LV.toV (.int .i64 n30)), (LV.toV (.str s31)), (LV.toV (.str s32))]) (.agg #[(LV.toV (.int .i64 0)), (LV.toV (.str [])), (LV.toV (.str []))]); binOp .eql 23 (.agg #[(LV.toV (.int .i64 n30)), (LV.toV (.str s31)), (LV.toV (.str s32))]) (.agg #[(LV.toV (.int .i64 0)), (LV.toV (.str [])), (LV.toV (.str []))]))) w_28 (.one (.leaf (.bool))) fun c34 w_33 =>
            ifK c34
            (ifK (!c12)
              (ifK (n13 == 1)
                (callK Tryz.prog 8 [.leaf (.ptr none)] w_33 (.one (.leaf (.int .i64))) fun n35 w_36 =>
                  k18 (n35 == 1) w_36)
                (k18 false w_33))
              (k18 false w_33))
            (k18 false w_33))
          (k18 false w_28))
        (k18 false w_23))
      (k18 false w_23))
    (k18 false w_23)) fun t237 w_38 =>
  K t237 w_38

def N_winnowlaw12_ExtsortNil : Ann := (.mk none [] [] .done .nil (.mk none [] [] .done .nil (.mk none [] [] .done .nil (.mk none [] [] .done .nil (.mk none [] [] .done .nil (.mk none [] [] .done (.mk (some [.tmp 2 (.leaf (.bool))]) [] [] .done .nil .nil) .nil))))))

theorem is_winnowlaw12_ExtsortNil (r_0_1 : Int) (r_1_2 : List UInt8) (r_2_3 : List UInt8) (K : Bool → World → Prop) (w : World) : WF Tryz.prog CS Tryz.f3 N_winnowlaw12_ExtsortNil (.one (.leaf (.bool))) [.agg [.int .i64 r_0_1, .str r_1_2, .str r_2_3]] K w = S_winnowlaw12_ExtsortNil r_0_1 r_1_2 r_2_3 K w := by kernel_rfl
theorem go_winnowlaw12_ExtsortNil (r_0_1 : Int) (r_1_2 : List UInt8) (r_2_3 : List UInt8) (K : Bool → World → Prop) (w : World) (h : S_winnowlaw12_ExtsortNil r_0_1 r_1_2 r_2_3 K w) : callK Tryz.prog 3 [.agg [.int .i64 r_0_1, .str r_1_2, .str r_2_3]] w (.one (.leaf (.bool))) K := by
  refine WF_sound (n := N_winnowlaw12_ExtsortNil) CS_ok mixed Tryz.func3 ?_
  rw [is_winnowlaw12_ExtsortNil]
  exact h

-- 4 (*winnow/extsort.Sorter).Finish
def S_extsort_Sorter_Finish (s1 : PA) (K : PA → Int → World → Prop) (w : World) : Prop :=
  ifK s1.isNone
  (K none 1 w)
  (dr s1 fun b2 o3 =>
    ld w .bool b2 (o3 + 15) fun c4 =>
    ifK c4
    (K none 4 w)
    (dr s1 fun b5 o6 =>
      st w b5 (o6 + 15) [.lit true] fun w_7 =>
      dr s1 fun b8 o9 =>
      ld w_7 (.int .i64) b8 (o9 + 14) fun n10 =>
      ifK (n10 != 0)
      (drawK w_7 fun D w_11 =>
        dr s1 fun b12 o13 =>
        ldD D w_11 (.int .i64) b12 (o13 + 14) fun n14 =>
        K none n14 w_11)
      (dr s1 fun b15 o16 =>
        ld w_7 .ptr b15 (o16 + 6) fun p17 =>
        callK Tryz.prog 9 [.leaf (.ptr p17)] w_7 (.one (.leaf (.sl))) fun a18 w_19 =>
        joinK [] (fun k20 =>
          loopL [] (fun w_22 again21 =>
            drawK w_22 fun D w_23 =>
            dr s1 fun b24 o25 =>
            ldD D w_23 .sl b24 (o25 + 7) fun a26 =>
            dr s1 fun b27 o28 =>
            ldD D w_23 (.int .i64) b27 (o28 + 2) fun n29 =>
            ifK (decide (n29 < w64 ((a26.len : Int) + (mnI (a18.len : Int) 1))))
            (drawK w_23 fun D w_30 =>
              dr s1 fun b31 o32 =>
              ldD D w_30 (.int .i64) b31 (o32 + 2) fun n33 =>
              dr s1 fun b34 o35 =>
              ldD D w_30 .sl b34 (o35 + 7) fun a36 =>
              dr s1 fun b37 o38 =>
              ldD D w_30 (.int .i64) b37 (o38 + 2) fun n39 =>
              callK Tryz.prog 10 [.leaf (.ptr s1), .leaf (.int .i64 (mnI n33 (w64 ((w64 ((w64 ((a36.len : Int) + (mnI (a18.len : Int) 1))) - n39)) + 1))))] w_30 (.one (.leaf (.int .i64))) fun n40 w_41 =>
              Mod D w_30 w_41 ∧
              ifK (n40 != 0)
              (dr s1 fun b42 o43 =>
                st w_41 b42 (o43 + 14) [.int .i64 n40] fun w_44 =>
                K none n40 w_44)
              (again21 w_41))
            (k20 w_23)) [] w_19) fun w_45 =>
        joinK [.sl] (fun k46 =>
          ifK (decide (0 < mnI (a18.len : Int) 1))
          (callK Tryz.prog 11 [.leaf (.sl a18)] w_45 (.one (.leaf (.val))) fun v47 w_48 =>
            (∀ x ∈ [(v47 : Value)], isCell x = true) ∧
            al w_48 49 [.val v47] fun b49 w_50 =>
            ap w_50 49 1 8 [.val .nilFunc] (⟨none, 0, 0⟩) (⟨some (b49, 0), 1, 1⟩) fun a51 w_52 =>
            k46 a51 w_52)
          (k46 (⟨none, 0, 0⟩) w_45)) fun more53 w_54 =>
        dr s1 fun b55 o56 =>
        ld w_54 .sl b55 (o56 + 7) fun a57 =>
        callK Tryz.prog 12 [.leaf (.ptr s1), .leaf (.sl a57), .leaf (.sl more53)] w_54 (.tup [.leaf (.val), .leaf (.int .i64)]) fun v58 n59 w_60 =>
        ifK (n59 != 0)
        (dr s1 fun b61 o62 =>
          st w_60 b61 (o62 + 14) [.int .i64 n59] fun w_63 =>
          K none n59 w_63)
        ((∀ x ∈ [(v58 : Value)], isCell x = true) ∧
          (∀ x ∈ [(v58 : Value)], isCell x = true) ∧
          al w_60 54 [.ptr s1, .val v58, .int .i64 0, .lit false] fun b64 w_65 =>
          K (some (b64, 0)) 0 w_65))))

def N_extsort_Sorter_Finish : Ann := (.mk none [] [] .done .nil (.mk none [] [] .done .nil (.mk none [] [] .done .nil (.mk none [] [] .done (.mk none [] [] .done .nil (.mk none [] [] .done (.mk none [] [] .done (.mk none [] [] (.take 0 (.take 1 (.take 2 (.take 3 (.take 4 (.take 5 .done)))))) .nil .nil) .nil) .nil)) (.mk none [] [] .done .nil (.mk none [] [] .done .nil (.mk none [] [] .done (.mk (some []) [] [0, 4, 5] .done (.mk none [] [0, 4, 5] .done (.mk none [] [] .done (.mk none [] [] .done (.mk none [] [] (.take 0 (.take 1 (.take 2 (.take 3 (.take 4 (.take 5 (.take 6 (.take 7 (.take 8 (.take 9 (.take 10 (.take 11 .done)))))))))))) .nil .nil) .nil) (.mk none [] [] .done (.mk none [] [] .done (.mk none [] [] (.take 0 (.take 1 (.take 2 (.take 3 (.take 4 (.take 5 (.take 6 (.take 7 (.take 8 (.take 9 (.take 10 (.take 11 (.take 12 (.take 13 (.take 14 (.take 15 (.take 16 (.take 17 (.take 18 (.eff 19 (.take 20 .done))))))))))))))))))))) .nil .nil) .nil) .nil)) .nil) .nil) (.mk none [] [] .done .nil (.mk none [] [] .done (.mk none [] [] .done .nil (.mk (some [.tmp 7 (.leaf (.sl))]) [] [0] .done .nil .nil)) .nil)))))))))

theorem is_extsort_Sorter_Finish (s1 : PA) (K : PA → Int → World → Prop) (w : World) : WF Tryz.prog CS Tryz.f4 N_extsort_Sorter_Finish (.tup [.leaf (.ptr), .leaf (.int .i64)]) [.leaf (.ptr s1)] K w = S_extsort_Sorter_Finish s1 K w := by kernel_rfl
theorem go_extsort_Sorter_Finish (s1 : PA) (K : PA → Int → World → Prop) (w : World) (h : S_extsort_Sorter_Finish s1 K w) : callK Tryz.prog 4 [.leaf (.ptr s1)] w (.tup [.leaf (.ptr), .leaf (.int .i64)]) K := by
  refine WF_sound (n := N_extsort_Sorter_Finish) CS_ok mixed Tryz.func4 ?_
  rw [is_extsort_Sorter_Finish]
  exact h

-- 5 (*winnow/extsort.Stream).Next
def S_extsort_Stream_Next (t1 : PA) (K : Int → List UInt8 → List UInt8 → Bool → Int → World → Prop) (w : World) : Prop :=
  al w 23 [.int .i64 0, .str [], .str []] fun b2 w_3 =>
  ifK t1.isNone
  (st w_3 b2 0 [.int .i64 0, .str [], .str []] fun w_4 =>
    ld w_4 (.int .i64) b2 0 fun n5 =>
    ld w_4 .str b2 1 fun s6 =>
    ld w_4 .str b2 2 fun s7 =>
    K n5 s6 s7 false 1 w_4)
  (dr t1 fun b8 o9 =>
    ld w_3 .bool b8 (o9 + 3) fun c10 =>
    ifK c10
    (st w_3 b2 0 [.int .i64 0, .str [], .str []] fun w_11 =>
      ld w_11 (.int .i64) b2 0 fun n12 =>
      ld w_11 .str b2 1 fun s13 =>
      ld w_11 .str b2 2 fun s14 =>
      K n12 s13 s14 false 4 w_11)
    (dr t1 fun b15 o16 =>
      ld w_3 (.int .i64) b15 (o16 + 2) fun n17 =>
      ifK (n17 != 0)
      (drawK w_3 fun D w_18 =>
        dr t1 fun b19 o20 =>
        ldD D w_18 (.int .i64) b19 (o20 + 2) fun n21 =>
        st w_18 b2 0 [.int .i64 0, .str [], .str []] fun w_22 =>
        Mod D w_18 w_22 ∧
        ld w_22 (.int .i64) b2 0 fun n23 =>
        ld w_22 .str b2 1 fun s24 =>
        ld w_22 .str b2 2 fun s25 =>
        K n23 s24 s25 false n21 w_22)
      (dr t1 fun b26 o27 =>
        ld w_3 .val b26 (o27 + 1) fun v28 =>
        callV Tryz.prog v28 [] w_3 (.tup [.agg [.int .i64, .str, .str], .leaf (.bool), .leaf (.int .i64)]) fun n29 s30 s31 c32 n33 w_34 =>
        al w_34 23 [.int .i64 0, .str [], .str []] fun b35 w_36 =>
        st w_36 b35 0 [.int .i64 n29, .str s30, .str s31] fun w_37 =>
        dr t1 fun b38 o39 =>
        st w_37 b38 (o39 + 2) [.int .i64 n33] fun w_40 =>
        ifK (n33 != 0)
        (st w_40 b2 0 [.int .i64 0, .str [], .str []] fun w_41 =>
          ld w_41 (.int .i64) b2 0 fun n42 =>
          ld w_41 .str b2 1 fun s43 =>
          ld w_41 .str b2 2 fun s44 =>
          K n42 s43 s44 false n33 w_41)
        (ld w_40 (.int .i64) b35 0 fun n45 =>
          ld w_40 .str b35 1 fun s46 =>
          ld w_40 .str b35 2 fun s47 =>
          st w_40 b2 0 [.int .i64 n45, .str s46, .str s47] fun w_48 =>
          ld w_48 (.int .i64) b2 0 fun n49 =>
          ld w_48 .str b2 1 fun s50 =>
          ld w_48 .str b2 2 fun s51 =>
          K n49 s50 s51 c32 0 w_48))))

def N_extsort_Stream_Next : Ann := (.mk none [] [] .done .nil (.mk none [] [] .done (.mk none [] [] .done (.mk none [] [] .done .nil (.mk none [] [] .done .nil (.mk none [] [] .done .nil (.mk none [] [] .done .nil (.mk none [] [] .done .nil (.mk none [] [] .done (.mk none [] [] .done (.mk none [] [] (.take 0 (.take 1 (.take 2 (.take 3 (.take 4 (.eff 5 (.take 6 (.take 7 .done)))))))) .nil .nil) .nil) .nil)))))) .nil) .nil))

theorem is_extsort_Stream_Next (t1 : PA) (K : Int → List UInt8 → List UInt8 → Bool → Int → World → Prop) (w : World) : WF Tryz.prog CS Tryz.f5 N_extsort_Stream_Next (.tup [.agg [.int .i64, .str, .str], .leaf (.bool), .leaf (.int .i64)]) [.leaf (.ptr t1)] K w = S_extsort_Stream_Next t1 K w := by kernel_rfl
theorem go_extsort_Stream_Next (t1 : PA) (K : Int → List UInt8 → List UInt8 → Bool → Int → World → Prop) (w : World) (h : S_extsort_Stream_Next t1 K w) : callK Tryz.prog 5 [.leaf (.ptr t1)] w (.tup [.agg [.int .i64, .str, .str], .leaf (.bool), .leaf (.int .i64)]) K := by
  refine WF_sound (n := N_extsort_Stream_Next) CS_ok mixed Tryz.func5 ?_
  rw [is_extsort_Stream_Next]
  exact h

-- 6 (*winnow/extsort.Sorter).Add
def S_extsort_Sorter_Add (s1 : PA) (r_0_2 : Int) (r_1_3 : List UInt8) (r_2_4 : List UInt8) (K : Int → World → Prop) (w : World) : Prop :=
  al w 23 [.int .i64 r_0_2, .str r_1_3, .str r_2_4] fun b5 w_6 =>
  ifK s1.isNone
  (K 1 w_6)
  (dr s1 fun b7 o8 =>
    ld w_6 .bool b7 (o8 + 15) fun c9 =>
    ifK c9
    (K 4 w_6)
    (dr s1 fun b10 o11 =>
      ld w_6 (.int .i64) b10 (o11 + 14) fun n12 =>
      ifK (n12 != 0)
      (dr s1 fun b13 o14 =>
        ld w_6 (.int .i64) b13 (o14 + 14) fun n15 =>
        K n15 w_6)
      (joinK [.bool] (fun k16 =>
          ld w_6 .str b5 1 fun s17 =>
          ifK (decide (1024 < (s17.length : Int)))
          (k16 true w_6)
          (ld w_6 .str b5 2 fun s18 =>
            k16 (decide (1024 < (s18.length : Int))) w_6)) fun t2319 w_20 =>
        ifK t2319
        (K 90 w_20)
        (joinK [.bool] (fun k21 =>
            drawK w_20 fun D w_22 =>
            ldD D w_22 (.int .i64) b5 0 fun n23 =>
            ifK (decide (n23 < 0))
            (k21 true w_22)
            (ldD D w_22 (.int .i64) b5 0 fun n24 =>
              dr s1 fun b25 o26 =>
              ldD D w_22 (.int .i64) b25 (o26 + 1) fun n27 =>
              k21 (decide (n27 ≤ n24)) w_22)) fun t3428 w_29 =>
          ifK t3428
          (K 3 w_29)
          (drawK w_29 fun D w_30 =>
            dr s1 fun b31 o32 =>
            ldD D w_30 .ptr b31 (o32 + 6) fun p33 =>
            ldD D w_30 (.int .i64) b5 0 fun n34 =>
            ldD D w_30 .str b5 1 fun s35 =>
            ldD D w_30 .str b5 2 fun s36 =>
            callK Tryz.prog 13 [.leaf (.ptr p33), .agg [.int .i64 n34, .str s35, .str s36]] w_30 (.one (.leaf (.int .i64))) fun n37 w_38 =>
            Mod D w_30 w_38 ∧
            joinK [] (fun k39 =>
              ifK (n37 != 0)
              (callK Tryz.prog 14 [.leaf (.ptr s1)] w_38 (.one (.leaf (.int .i64))) fun n40 w_41 =>
                dr s1 fun b42 o43 =>
                st w_41 b42 (o43 + 14) [.int .i64 n40] fun w_44 =>
                dr s1 fun b45 o46 =>
                ld w_44 (.int .i64) b45 (o46 + 14) fun n47 =>
                ifK (n47 != 0)
                (dr s1 fun b48 o49 =>
                  ld w_44 (.int .i64) b48 (o49 + 14) fun n50 =>
                  K n50 w_44)
                (drawK w_44 fun D w_51 =>
                  dr s1 fun b52 o53 =>
                  ldD D w_51 .ptr b52 (o53 + 6) fun p54 =>
                  ldD D w_51 (.int .i64) b5 0 fun n55 =>
                  ldD D w_51 .str b5 1 fun s56 =>
                  ldD D w_51 .str b5 2 fun s57 =>
                  callK Tryz.prog 13 [.leaf (.ptr p54), .agg [.int .i64 n55, .str s56, .str s57]] w_51 (.one (.leaf (.int .i64))) fun n58 w_59 =>
                  Mod D w_51 w_59 ∧
                  k39 w_59))
              (k39 w_38)) fun w_60 =>
            drawK w_60 fun D w_61 =>
            dr s1 fun b62 o63 =>
            ldD D w_61 (.int .i64) b62 (o63 + 11 + 2) fun n64 =>
            dr s1 fun b65 o66 =>
            ldD D w_61 .ptr b65 (o66 + 6) fun p67 =>
            callK Tryz.prog 15 [.leaf (.ptr p67)] w_61 (.one (.leaf (.int .i64))) fun n68 w_69 =>
            Mod D w_61 w_69 ∧
            dr s1 fun b70 o71 =>
            st w_69 b70 (o71 + 11 + 2) [.int .i64 (mxI n64 n68)] fun w_72 =>
            Mod D w_61 w_72 ∧
            K 0 w_72)))))

def N_extsort_Sorter_Add : Ann := (.mk none [] [] .done .nil (.mk none [] [] .done (.mk none [] [] .done (.mk none [] [] .done .nil (.mk none [] [] .done .nil (.mk none [] [] .done .nil (.mk none [] [] .done .nil (.mk none [] [] .done .nil (.mk none [] [] .done .nil (.mk none [] [] .done (.mk (some [.tmp 23 (.leaf (.bool))]) [] [0, 3] .done .nil .nil) (.mk none [] [] .done .nil (.mk none [] [] .done (.mk (some [.tmp 34 (.leaf (.bool))]) [] [0, 3] (.take 0 (.take 1 (.take 2 (.take 3 (.split 3 (.take 4 (.take 5 (.take 6 (.take 7 (.take 8 (.take 9 (.take 10 (.take 11 (.take 12 .done))))))))) (.take 4 (.take 5 (.take 6 (.take 7 (.take 8 (.take 9 (.take 10 (.take 11 (.take 12 .done)))))))))))))) .nil .nil) .nil))))))))) .nil) (.mk none [] [] .done (.mk none [] [] .done (.mk none [] [] (.take 0 (.take 1 (.take 2 (.take 3 (.take 4 (.eff 5 (.take 6 .done))))))) .nil .nil) (.mk (some []) [] [0] .done (.mk none [] [] .done .nil (.mk none [] [] (.take 0 (.take 1 (.take 2 (.take 3 (.take 4 (.eff 5 .done)))))) .nil .nil)) .nil)) (.mk none [] [] .done (.mk none [] [] (.take 0 (.take 1 (.take 2 (.take 3 (.take 4 (.take 5 (.take 6 (.take 7 (.take 8 (.take 9 (.eff 10 (.take 11 (.take 12 (.take 13 (.take 14 (.eff 15 .done)))))))))))))))) .nil .nil) .nil))))

theorem is_extsort_Sorter_Add (s1 : PA) (r_0_2 : Int) (r_1_3 : List UInt8) (r_2_4 : List UInt8) (K : Int → World → Prop) (w : World) : WF Tryz.prog CS Tryz.f6 N_extsort_Sorter_Add (.one (.leaf (.int .i64))) [.leaf (.ptr s1), .agg [.int .i64 r_0_2, .str r_1_3, .str r_2_4]] K w = S_extsort_Sorter_Add s1 r_0_2 r_1_3 r_2_4 K w := by kernel_rfl
theorem go_extsort_Sorter_Add (s1 : PA) (r_0_2 : Int) (r_1_3 : List UInt8) (r_2_4 : List UInt8) (K : Int → World → Prop) (w : World) (h : S_extsort_Sorter_Add s1 r_0_2 r_1_3 r_2_4 K w) : callK Tryz.prog 6 [.leaf (.ptr s1), .agg [.int .i64 r_0_2, .str r_1_3, .str r_2_4]] w (.one (.leaf (.int .i64))) K := by
  refine WF_sound (n := N_extsort_Sorter_Add) CS_ok mixed Tryz.func6 ?_
  rw [is_extsort_Sorter_Add]
  exact h

-- 7 (*winnow/extsort.Sorter).Stats
def S_extsort_Sorter_Stats (s1 : PA) (K : Int → Int → Int → World → Prop) (w : World) : Prop :=
  al w 33 [.int .i64 0, .int .i64 0, .int .i64 0] fun b2 w_3 =>
  ifK s1.isNone
  (st w_3 b2 0 [.int .i64 0, .int .i64 0, .int .i64 0] fun w_4 =>
    ld w_4 (.int .i64) b2 0 fun n5 =>
    ld w_4 (.int .i64) b2 1 fun n6 =>
    ld w_4 (.int .i64) b2 2 fun n7 =>
    K n5 n6 n7 w_4)
  (dr s1 fun b8 o9 =>
    ld w_3 (.int .i64) b8 (o9 + 11) fun n10 =>
    ld w_3 (.int .i64) b8 (o9 + 11 + 1) fun n11 =>
    ld w_3 (.int .i64) b8 (o9 + 11 + 2) fun n12 =>
    st w_3 b2 0 [.int .i64 n10, .int .i64 n11, .int .i64 n12] fun w_13 =>
    ld w_13 (.int .i64) b2 0 fun n14 =>
    ld w_13 (.int .i64) b2 1 fun n15 =>
    ld w_13 (.int .i64) b2 2 fun n16 =>
    K n14 n15 n16 w_13)

def N_extsort_Sorter_Stats : Ann := .nil

theorem is_extsort_Sorter_Stats (s1 : PA) (K : Int → Int → Int → World → Prop) (w : World) : WF Tryz.prog CS Tryz.f7 N_extsort_Sorter_Stats (.one (.agg [.int .i64, .int .i64, .int .i64])) [.leaf (.ptr s1)] K w = S_extsort_Sorter_Stats s1 K w := by kernel_rfl
theorem go_extsort_Sorter_Stats (s1 : PA) (K : Int → Int → Int → World → Prop) (w : World) (h : S_extsort_Sorter_Stats s1 K w) : callK Tryz.prog 7 [.leaf (.ptr s1)] w (.one (.agg [.int .i64, .int .i64, .int .i64])) K := by
  refine WF_sound (n := N_extsort_Sorter_Stats) CS_ok mixed Tryz.func7 ?_
  rw [is_extsort_Sorter_Stats]
  exact h

-- 8 (*winnow/extsort.Stream).Close
def S_extsort_Stream_Close (t1 : PA) (K : Int → World → Prop) (w : World) : Prop :=
  ifK t1.isNone
  (K 1 w)
  (dr t1 fun b2 o3 =>
    ld w .bool b2 (o3 + 3) fun c4 =>
    ifK c4
    (K 4 w)
    (dr t1 fun b5 o6 =>
      st w b5 (o6 + 3) [.lit true] fun w_7 =>
      dr t1 fun b8 o9 =>
      ld w_7 .ptr b8 o9 fun p10 =>
      dr p10 fun b11 o12 =>
      ld w_7 .sl b11 (o12 + 7) fun a13 =>
      joinK [.int .i64] (fun k14 =>
        loopL [.int .i64, .int .i64] (fun first16 t2617 w_18 again15 =>
          ifK (decide (t2617 < (a13.len : Int)))
          (ix a13 3 t2617 fun b19 o20 =>
            ld w_18 .str b19 o20 fun s21 =>
            ld w_18 (.int .i64) b19 (o20 + 1) fun n22 =>
            ld w_18 (.int .i64) b19 (o20 + 2) fun n23 =>
            al w_18 57 [.str [], .int .i64 0, .int .i64 0] fun b24 w_25 =>
            st w_25 b24 0 [.str s21, .int .i64 n22, .int .i64 n23] fun w_26 =>
            drawK w_26 fun D w_27 =>
            dr t1 fun b28 o29 =>
            ldD D w_27 .ptr b28 o29 fun p30 =>
            dr p30 fun b31 o32 =>
            ldD D w_27 .ptr b31 o32 fun p33 =>
            ldD D w_27 .str b24 0 fun s34 =>
            callK Tryz.prog 16 [.leaf (.ptr p33), .leaf (.str s34)] w_27 (.one (.leaf (.int .i64))) fun n35 w_36 =>
            Mod D w_27 w_36 ∧
            joinK [.bool] (fun k37 =>
              ifK (n35 != 0)
              (k37 (first16 == 0) w_36)
              (k37 false w_36)) fun t4538 w_39 =>
            joinK [.int .i64] (fun k40 =>
              ifK t4538
              (k40 n35 w_39)
              (k40 first16 w_39)) fun first41 w_42 =>
            again15 first41 (w64 (t2617 + 1)) w_42)
          (k14 first16 w_18)) [.int .i64 0, .int .i64 0] w_7) fun first43 w_44 =>
      K first43 w_44))

def N_extsort_Stream_Close : Ann := (.mk none [] [] .done .nil (.mk none [] [] .done .nil (.mk none [] [] .done .nil (.mk none [] [] .done .nil (.mk none [] [] .done (.mk none [] [] .done .nil (.mk (some [.tmp 3 (.leaf (.int .i64))]) [] [] .done (.mk none [.tmp 3 (.leaf (.int .i64)), .tmp 26 (.leaf (.int .i64))] [0, 24, 25] .done (.mk none [] [] .done .nil (.mk none [] [] .done .nil (.mk none [] [] .done (.mk none [] [] .done (.mk none [] [] .done .nil (.mk none [] [] .done (.mk none [] [] (.take 0 (.take 1 (.take 2 (.take 3 (.take 4 (.take 5 (.take 6 (.take 7 (.take 8 (.eff 9 (.take 10 .done))))))))))) .nil .nil) (.mk none [] [] .done (.mk (some [.tmp 45 (.leaf (.bool))]) [] [0, 3, 6, 24, 25, 26] .done .nil .nil) (.mk (some [.tmp 3 (.leaf (.int .i64))]) [] [0, 24, 25, 26] .done .nil .nil)))) .nil) .nil))) .nil) .nil)) .nil)))))

theorem is_extsort_Stream_Close (t1 : PA) (K : Int → World → Prop) (w : World) : WF Tryz.prog CS Tryz.f8 N_extsort_Stream_Close (.one (.leaf (.int .i64))) [.leaf (.ptr t1)] K w = S_extsort_Stream_Close t1 K w := by kernel_rfl
theorem go_extsort_Stream_Close (t1 : PA) (K : Int → World → Prop) (w : World) (h : S_extsort_Stream_Close t1 K w) : callK Tryz.prog 8 [.leaf (.ptr t1)] w (.one (.leaf (.int .i64))) K := by
  refine WF_sound (n := N_extsort_Stream_Close) CS_ok mixed Tryz.func8 ?_
  rw [is_extsort_Stream_Close]
  exact h


end Go.Proofs.YtjefbjfifjjpmadGreat
