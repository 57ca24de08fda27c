/- The typed reading of a merge of things. -/
import Derived.Test.YtfhojgammfkabaaS0
namespace Go.Proofs.Ytfhojgammfkabaa
open Go.Vw
-- 25 (*winnow/merge.Merge[winnow/winnowref11.Thing]).Err
def S_merge_Merge_Err_winnowref11_Thing (m1 : PA) (K : Int → World → Prop) (w : World) : Prop :=
  ifK m1.isNone
  (K 1 w)
  (dr m1 fun b2 o3 =>
    ld w (.int .i64) b2 (o3 + 8) fun n4 =>
    K n4 w)

def N_merge_Merge_Err_winnowref11_Thing : Ann := .nil

theorem is_merge_Merge_Err_winnowref11_Thing (m1 : PA) (K : Int → World → Prop) (w : World) : WF Try.prog CS Try.f25 N_merge_Merge_Err_winnowref11_Thing (.one (.leaf (.int .i64))) [.leaf (.ptr m1)] K w = S_merge_Merge_Err_winnowref11_Thing m1 K w := by kernel_rfl
theorem go_merge_Merge_Err_winnowref11_Thing (m1 : PA) (K : Int → World → Prop) (w : World) (h : S_merge_Merge_Err_winnowref11_Thing m1 K w) : callK Try.prog 25 [.leaf (.ptr m1)] w (.one (.leaf (.int .i64))) K := by
  refine WF_sound (n := N_merge_Merge_Err_winnowref11_Thing) CS_ok mixed Try.func25 ?_
  rw [is_merge_Merge_Err_winnowref11_Thing]
  exact h

-- 27 (*winnow/merge.Merge[winnow/winnowref11.Thing]).Next
def S_merge_Merge_Next_winnowref11_Thing (m1 : PA) (K : Int → Int → Bool → Int → World → Prop) (w : World) : Prop :=
  al w 55 [.int .i64 0, .int .i64 0] fun b2 w_3 =>
  al w_3 55 [.int .i64 0, .int .i64 0] fun b4 w_5 =>
  ifK m1.isNone
  (ld w_5 (.int .i64) b4 0 fun n6 =>
    ld w_5 (.int .i64) b4 1 fun n7 =>
    st w_5 b2 0 [.int .i64 n6, .int .i64 n7] fun w_8 =>
    ld w_8 (.int .i64) b2 0 fun n9 =>
    ld w_8 (.int .i64) b2 1 fun n10 =>
    K n9 n10 false 1 w_8)
  (dr m1 fun b11 o12 =>
    ld w_5 .bool b11 (o12 + 7) fun c13 =>
    ifK c13
    (drawK w_5 fun D w_14 =>
      ldD D w_14 (.int .i64) b4 0 fun n15 =>
      ldD D w_14 (.int .i64) b4 1 fun n16 =>
      dr m1 fun b17 o18 =>
      ldD D w_14 (.int .i64) b17 (o18 + 8) fun n19 =>
      st w_14 b2 0 [.int .i64 n15, .int .i64 n16] fun w_20 =>
      Mod D w_14 w_20 ∧
      ld w_20 (.int .i64) b2 0 fun n21 =>
      ld w_20 (.int .i64) b2 1 fun n22 =>
      K n21 n22 false n19 w_20)
    (dr m1 fun b23 o24 =>
      ld w_5 .bool b23 (o24 + 6) fun c25 =>
      joinK [] (fun k26 =>
        ifK (!c25)
        (callK Try.prog 40 [.leaf (.ptr m1)] w_5 (.one (.leaf (.int .i64))) fun n27 w_28 =>
          ifK (n27 != 0)
          (ld w_28 (.int .i64) b4 0 fun n29 =>
            ld w_28 (.int .i64) b4 1 fun n30 =>
            st w_28 b2 0 [.int .i64 n29, .int .i64 n30] fun w_31 =>
            ld w_31 (.int .i64) b2 0 fun n32 =>
            ld w_31 (.int .i64) b2 1 fun n33 =>
            K n32 n33 false n27 w_31)
          (k26 w_28))
        (dr m1 fun b34 o35 =>
          ld w_5 (.int .i64) b34 (o35 + 5) fun n36 =>
          callK Try.prog 41 [.leaf (.ptr m1), .leaf (.int .i64 n36)] w_5 (.one (.leaf (.int .i64))) fun n37 w_38 =>
          ifK (n37 != 0)
          (ld w_38 (.int .i64) b4 0 fun n39 =>
            ld w_38 (.int .i64) b4 1 fun n40 =>
            st w_38 b2 0 [.int .i64 n39, .int .i64 n40] fun w_41 =>
            ld w_41 (.int .i64) b2 0 fun n42 =>
            ld w_41 (.int .i64) b2 1 fun n43 =>
            K n42 n43 false n37 w_41)
          (dr m1 fun b44 o45 =>
            ld w_38 (.int .i64) b44 (o45 + 5) fun n46 =>
            callK Try.prog 42 [.leaf (.ptr m1), .leaf (.int .i64 n46)] w_38 (.tup []) fun w_47 =>
            k26 w_47))) fun w_48 =>
      joinK [.bool] (fun k49 =>
        drawK w_48 fun D w_50 =>
        dr m1 fun b51 o52 =>
        ldD D w_50 .sl b51 (o52 + 1) fun a53 =>
        ifK ((a53.len : Int) == 0)
        (k49 true w_50)
        (dr m1 fun b54 o55 =>
          ldD D w_50 .sl b54 (o55 + 3) fun a56 =>
          dr m1 fun b57 o58 =>
          ldD D w_50 (.int .i64) b57 (o58 + 5) fun n59 =>
          ix a56 1 n59 fun b60 o61 =>
          ldD D w_50 .bool b60 o61 fun c62 =>
          k49 (!c62) w_50)) fun t6563 w_64 =>
      ifK t6563
      (drawK w_64 fun D w_65 =>
        ldD D w_65 (.int .i64) b4 0 fun n66 =>
        ldD D w_65 (.int .i64) b4 1 fun n67 =>
        callK Try.prog 43 [.leaf (.ptr m1), .leaf (.int .i64 0)] w_65 (.one (.leaf (.int .i64))) fun n68 w_69 =>
        Mod D w_65 w_69 ∧
        st w_69 b2 0 [.int .i64 n66, .int .i64 n67] fun w_70 =>
        Mod D w_65 w_70 ∧
        ld w_70 (.int .i64) b2 0 fun n71 =>
        ld w_70 (.int .i64) b2 1 fun n72 =>
        K n71 n72 false n68 w_70)
      (drawK w_64 fun D w_73 =>
        dr m1 fun b74 o75 =>
        ldD D w_73 .sl b74 (o75 + 2) fun a76 =>
        dr m1 fun b77 o78 =>
        ldD D w_73 (.int .i64) b77 (o78 + 5) fun n79 =>
        ix a76 2 n79 fun b80 o81 =>
        ldD D w_73 (.int .i64) b80 o81 fun n82 =>
        ldD D w_73 (.int .i64) b80 (o81 + 1) fun n83 =>
        st w_73 b2 0 [.int .i64 n82, .int .i64 n83] fun w_84 =>
        Mod D w_73 w_84 ∧
        ld w_84 (.int .i64) b2 0 fun n85 =>
        ld w_84 (.int .i64) b2 1 fun n86 =>
        K n85 n86 true 0 w_84)))

def N_merge_Merge_Next_winnowref11_Thing : Ann := (.mk none [] [] .done .nil (.mk none [] [] .done .nil (.mk none [] [] .done .nil (.mk none [] [] .done (.mk none [] [] .done .nil (.mk none [] [] .done (.mk none [] [] .done (.mk none [] [] (.take 0 (.take 1 (.take 2 (.take 3 (.take 4 (.eff 5 (.take 6 (.take 7 .done)))))))) .nil .nil) .nil) .nil)) (.mk none [] [] .done (.mk none [] [] .done .nil (.mk (some []) [] [0, 2, 5] .done .nil .nil)) (.mk none [] [] .done (.mk none [] [] .done (.mk (some [.tmp 65 (.leaf (.bool))]) [] [0, 2, 5] (.take 0 (.take 1 (.take 2 (.take 3 (.take 4 (.take 5 (.take 6 (.split 6 (.take 7 (.take 8 (.take 9 (.take 10 (.take 11 (.take 12 (.take 13 (.take 14 (.take 15 (.take 16 (.take 17 (.take 18 .done)))))))))))) (.take 7 (.take 8 (.take 9 (.take 10 (.take 11 (.take 12 (.take 13 (.take 14 (.take 15 (.take 16 (.take 17 (.take 18 .done)))))))))))))))))))) .nil .nil) (.mk none [] [] .done (.mk none [] [] .done (.mk none [] [] (.take 0 (.take 1 (.eff 2 (.eff 3 (.take 4 (.take 5 .done)))))) .nil .nil) .nil) .nil)) (.mk none [] [] .done (.mk none [] [] (.take 0 (.take 1 (.take 2 (.take 3 (.take 4 (.take 5 (.take 6 (.take 7 (.take 8 (.take 9 (.eff 10 (.take 11 (.take 12 .done))))))))))))) .nil .nil) .nil)))))))

theorem is_merge_Merge_Next_winnowref11_Thing (m1 : PA) (K : Int → Int → Bool → Int → World → Prop) (w : World) : WF Try.prog CS Try.f27 N_merge_Merge_Next_winnowref11_Thing (.tup [.agg [.int .i64, .int .i64], .leaf (.bool), .leaf (.int .i64)]) [.leaf (.ptr m1)] K w = S_merge_Merge_Next_winnowref11_Thing m1 K w := by kernel_rfl
theorem go_merge_Merge_Next_winnowref11_Thing (m1 : PA) (K : Int → Int → Bool → Int → World → Prop) (w : World) (h : S_merge_Merge_Next_winnowref11_Thing m1 K w) : callK Try.prog 27 [.leaf (.ptr m1)] w (.tup [.agg [.int .i64, .int .i64], .leaf (.bool), .leaf (.int .i64)]) K := by
  refine WF_sound (n := N_merge_Merge_Next_winnowref11_Thing) CS_ok mixed Try.func27 ?_
  rw [is_merge_Merge_Next_winnowref11_Thing]
  exact h

-- 28 (*winnow/merge.Merge[winnow/winnowref11.Thing]).All
def S_merge_Merge_All_winnowref11_Thing (m1 : PA) (K : Value → World → Prop) (w : World) : Prop :=
  al w 57 [.ptr m1] fun b2 w_3 =>
  K (.func (.func 44) #[] #[(LV.toV (.ptr (some (b2, 0))))]) w_3

def N_merge_Merge_All_winnowref11_Thing : Ann := .nil

theorem is_merge_Merge_All_winnowref11_Thing (m1 : PA) (K : Value → World → Prop) (w : World) : WF Try.prog CS Try.f28 N_merge_Merge_All_winnowref11_Thing (.one (.leaf (.val))) [.leaf (.ptr m1)] K w = S_merge_Merge_All_winnowref11_Thing m1 K w := by kernel_rfl
theorem go_merge_Merge_All_winnowref11_Thing (m1 : PA) (K : Value → World → Prop) (w : World) (h : S_merge_Merge_All_winnowref11_Thing m1 K w) : callK Try.prog 28 [.leaf (.ptr m1)] w (.one (.leaf (.val))) K := by
  refine WF_sound (n := N_merge_Merge_All_winnowref11_Thing) CS_ok mixed Try.func28 ?_
  rw [is_merge_Merge_All_winnowref11_Thing]
  exact h

-- 30 winnow/merge.New[winnow/winnowref11.Thing]
def S_merge_New_winnowref11_Thing (compare1 : Value) (from_2 : Sl) (K : PA → Int → World → Prop) (w : World) : Prop :=
  nilF compare1 fun c3 =>
  ifK c3
  (K none 1 w)
  (joinK [] (fun k4 =>
      loopL [.int .i64] (fun t136 w_7 again5 =>
        ifK (decide (t136 < (from_2.len : Int)))
        (ix from_2 1 t136 fun b8 o9 =>
          ld w_7 .val b8 o9 fun v10 =>
          nilF v10 fun c11 =>
          ifK c11
          (K none 1 w_7)
          (again5 (w64 (t136 + 1)) w_7))
        (k4 w_7)) [.int .i64 0] w) fun w_12 =>
    ifK (decide (64 < (from_2.len : Int)))
    (K none 3 w_12)
    (al w_12 68 [] fun b13 w_14 =>
      ap w_14 68 1 8 [.val .nilFunc] (⟨some (b13, 0), 0, 0⟩) from_2 fun a15 w_16 =>
      (∀ x ∈ [(compare1 : Value)], isCell x = true) ∧
      (∀ x ∈ [(compare1 : Value)], isCell x = true) ∧
      al w_16 103 [.val compare1, .sl a15, .sl (⟨none, 0, 0⟩), .sl (⟨none, 0, 0⟩), .sl (⟨none, 0, 0⟩), .int .i64 0, .lit false, .lit false, .int .i64 0] fun b17 w_18 =>
      joinK [] (fun k19 =>
        drawK w_18 fun D w_20 =>
        (mk w_20 55 16 [.int .i64 0, .int .i64 0] (from_2.len : Int) (from_2.len : Int) fun a21 w_22 =>
          Mod D w_20 w_22 ∧
          dr (some (b17, 0)) fun b23 o24 =>
          (mk w_22 4 1 [.lit false] (from_2.len : Int) (from_2.len : Int) fun a25 w_26 =>
            Mod D w_20 w_26 ∧
            st w_26 b23 (o24 + 2) [.sl a21] fun w_27 =>
            Mod D w_20 w_27 ∧
            dr (some (b17, 0)) fun b28 o29 =>
            st w_27 b28 (o29 + 3) [.sl a25] fun w_30 =>
            Mod D w_20 w_30 ∧
            k19 w_30) ∧
          (st w_22 b23 (o24 + 2) [.sl a21] fun w_31 =>
            Mod D w_20 w_31 ∧
            mk w_31 4 1 [.lit false] (from_2.len : Int) (from_2.len : Int) fun a32 w_33 =>
            Mod D w_20 w_33 ∧
            dr (some (b17, 0)) fun b34 o35 =>
            st w_33 b34 (o35 + 3) [.sl a32] fun w_36 =>
            Mod D w_20 w_36 ∧
            k19 w_36)) ∧
        (mk w_20 4 1 [.lit false] (from_2.len : Int) (from_2.len : Int) fun a37 w_38 =>
          Mod D w_20 w_38 ∧
          mk w_38 55 16 [.int .i64 0, .int .i64 0] (from_2.len : Int) (from_2.len : Int) fun a39 w_40 =>
          Mod D w_20 w_40 ∧
          dr (some (b17, 0)) fun b41 o42 =>
          st w_40 b41 (o42 + 2) [.sl a39] fun w_43 =>
          Mod D w_20 w_43 ∧
          dr (some (b17, 0)) fun b44 o45 =>
          st w_43 b44 (o45 + 3) [.sl a37] fun w_46 =>
          Mod D w_20 w_46 ∧
          k19 w_46)) fun w_47 =>
      K (some (b17, 0)) 0 w_47))

def N_merge_New_winnowref11_Thing : Ann := (.mk none [] [] .done .nil (.mk none [] [] .done .nil (.mk none [] [] .done (.mk none [] [] .done .nil (.mk (some []) [] [0, 1] .done (.mk none [.tmp 13 (.leaf (.int .i64))] [0, 1, 11, 12] .done .nil .nil) .nil)) (.mk none [] [] .done .nil (.mk none [] [] .done .nil (.mk none [] [] .done (.mk (some []) [] [8] (.take 0 (.take 1 (.take 2 (.take 3 (.take 5 (.take 6 (.two 4 (.take 8 (.take 9 (.two 7 (.eff 10 (.take 11 (.take 12 (.eff 13 .done)))) 10 (.eff 7 (.take 11 (.take 12 (.eff 13 .done))))))) 7 (.eff 4 (.take 8 (.take 9 (.eff 10 (.take 11 (.take 12 (.eff 13 .done)))))))))))))) .nil .nil) .nil))))))

theorem is_merge_New_winnowref11_Thing (compare1 : Value) (from_2 : Sl) (K : PA → Int → World → Prop) (w : World) : WF Try.prog CS Try.f30 N_merge_New_winnowref11_Thing (.tup [.leaf (.ptr), .leaf (.int .i64)]) [.leaf (.val compare1), .leaf (.sl from_2)] K w = S_merge_New_winnowref11_Thing compare1 from_2 K w := by kernel_rfl
theorem go_merge_New_winnowref11_Thing (compare1 : Value) (from_2 : Sl) (K : PA → Int → World → Prop) (w : World) (h : S_merge_New_winnowref11_Thing compare1 from_2 K w) : callK Try.prog 30 [.leaf (.val compare1), .leaf (.sl from_2)] w (.tup [.leaf (.ptr), .leaf (.int .i64)]) K := by
  refine WF_sound (n := N_merge_New_winnowref11_Thing) CS_ok mixed Try.func30 ?_
  rw [is_merge_New_winnowref11_Thing]
  exact h

-- 40 (*winnow/merge.Merge[winnow/winnowref11.Thing]).begin
def S_merge_Merge_begin_winnowref11_Thing (m1 : PA) (K : Int → World → Prop) (w : World) : Prop :=
  dr m1 fun b2 o3 =>
  st w b2 (o3 + 6) [.lit true] fun w_4 =>
  dr m1 fun b5 o6 =>
  ld w_4 .sl b5 (o6 + 1) fun a7 =>
  joinK [] (fun k8 =>
    loopL [.int .i64] (fun t1510 w_11 again9 =>
      ifK (decide (t1510 < (a7.len : Int)))
      (callK Try.prog 41 [.leaf (.ptr m1), .leaf (.int .i64 t1510)] w_11 (.one (.leaf (.int .i64))) fun n12 w_13 =>
        ifK (n12 != 0)
        (K n12 w_13)
        (again9 (w64 (t1510 + 1)) w_13))
      (k8 w_11)) [.int .i64 0] w_4) fun w_14 =>
  dr m1 fun b15 o16 =>
  ld w_14 .sl b15 (o16 + 1) fun a17 =>
  mk w_14 3 8 [.int .i64 0] (mxI (a17.len : Int) 1) (mxI (a17.len : Int) 1) fun a18 w_19 =>
  dr m1 fun b20 o21 =>
  st w_19 b20 (o21 + 4) [.sl a18] fun w_22 =>
  dr m1 fun b23 o24 =>
  ld w_22 .sl b23 (o24 + 4) fun a25 =>
  joinK [] (fun k26 =>
    loopL [.int .i64] (fun t4028 w_29 again27 =>
      ifK (decide (t4028 < (a25.len : Int)))
      (dr m1 fun b30 o31 =>
        ld w_29 .sl b30 (o31 + 4) fun a32 =>
        ix a32 1 t4028 fun b33 o34 =>
        st w_29 b33 o34 [.int .i64 (-1)] fun w_35 =>
        again27 (w64 (t4028 + 1)) w_35)
      (k26 w_29)) [.int .i64 0] w_22) fun w_36 =>
  dr m1 fun b37 o38 =>
  ld w_36 .sl b37 (o38 + 1) fun a39 =>
  joinK [] (fun k40 =>
    loopL [.int .i64] (fun t5542 w_43 again41 =>
      ifK (decide (t5542 < (a39.len : Int)))
      (callK Try.prog 42 [.leaf (.ptr m1), .leaf (.int .i64 t5542)] w_43 (.tup []) fun w_44 =>
        again41 (w64 (t5542 + 1)) w_44)
      (k40 w_43)) [.int .i64 0] w_36) fun w_45 =>
  K 0 w_45

def N_merge_Merge_begin_winnowref11_Thing : Ann := (.mk none [] [] .done .nil (.mk none [] [] .done .nil (.mk none [] [] .done (.mk none [] [] .done .nil (.mk (some []) [] [0] .done (.mk none [.tmp 15 (.leaf (.int .i64))] [0, 14] .done .nil .nil) .nil)) (.mk none [] [] .done .nil (.mk none [] [] .done (.mk none [] [] .done .nil (.mk (some []) [] [0] .done (.mk none [.tmp 40 (.leaf (.int .i64))] [0, 39] .done .nil .nil) .nil)) (.mk none [] [] .done (.mk none [] [] .done .nil (.mk (some []) [] [] .done (.mk none [.tmp 55 (.leaf (.int .i64))] [0, 54] .done .nil .nil) .nil)) .nil))))))

theorem is_merge_Merge_begin_winnowref11_Thing (m1 : PA) (K : Int → World → Prop) (w : World) : WF Try.prog CS Try.f40 N_merge_Merge_begin_winnowref11_Thing (.one (.leaf (.int .i64))) [.leaf (.ptr m1)] K w = S_merge_Merge_begin_winnowref11_Thing m1 K w := by kernel_rfl
theorem go_merge_Merge_begin_winnowref11_Thing (m1 : PA) (K : Int → World → Prop) (w : World) (h : S_merge_Merge_begin_winnowref11_Thing m1 K w) : callK Try.prog 40 [.leaf (.ptr m1)] w (.one (.leaf (.int .i64))) K := by
  refine WF_sound (n := N_merge_Merge_begin_winnowref11_Thing) CS_ok mixed Try.func40 ?_
  rw [is_merge_Merge_begin_winnowref11_Thing]
  exact h

-- 41 (*winnow/merge.Merge[winnow/winnowref11.Thing]).asks
def S_merge_Merge_asks_winnowref11_Thing (m1 : PA) (i2 : Int) (K : Int → World → Prop) (w : World) : Prop :=
  dr m1 fun b3 o4 =>
  ld w .sl b3 (o4 + 3) fun a5 =>
  ix a5 1 i2 fun b6 o7 =>
  ld w .bool b6 o7 fun c8 =>
  dr m1 fun b9 o10 =>
  ld w .sl b9 (o10 + 1) fun a11 =>
  ix a11 1 i2 fun b12 o13 =>
  ld w .val b12 o13 fun v14 =>
  callV Try.prog v14 [] w (.tup [.agg [.int .i64, .int .i64], .leaf (.bool), .leaf (.int .i64)]) fun n15 n16 c17 n18 w_19 =>
  al w_19 55 [.int .i64 0, .int .i64 0] fun b20 w_21 =>
  st w_21 b20 0 [.int .i64 n15, .int .i64 n16] fun w_22 =>
  ifK (n18 != 0)
  (callK Try.prog 43 [.leaf (.ptr m1), .leaf (.int .i64 n18)] w_22 (.one (.leaf (.int .i64))) fun n23 w_24 =>
    K n23 w_24)
  (joinK [.bool] (fun k25 =>
      drawK w_22 fun D w_26 =>
      ifK c17
      (ifK c8
        (dr m1 fun b27 o28 =>
          ldD D w_26 .val b27 o28 fun v29 =>
          ldD D w_26 (.int .i64) b20 0 fun n30 =>
          ldD D w_26 (.int .i64) b20 1 fun n31 =>
          dr m1 fun b32 o33 =>
          ldD D w_26 .sl b32 (o33 + 2) fun a34 =>
          ix a34 2 i2 fun b35 o36 =>
          ldD D w_26 (.int .i64) b35 o36 fun n37 =>
          ldD D w_26 (.int .i64) b35 (o36 + 1) fun n38 =>
          callV Try.prog v29 [.agg [.int .i64 n30, .int .i64 n31], .agg [.int .i64 n37, .int .i64 n38]] w_26 (.one (.leaf (.int .i64))) fun n39 w_40 =>
          Mod D w_26 w_40 ∧
          k25 (decide (n39 < 0)) w_40)
        (k25 false w_26))
      (k25 false w_26)) fun t5241 w_42 =>
    ifK t5241
    (callK Try.prog 43 [.leaf (.ptr m1), .leaf (.int .i64 61)] w_42 (.one (.leaf (.int .i64))) fun n43 w_44 =>
      K n43 w_44)
    (drawK w_42 fun D w_45 =>
      dr m1 fun b46 o47 =>
      ldD D w_45 .sl b46 (o47 + 2) fun a48 =>
      dr m1 fun b49 o50 =>
      ldD D w_45 .sl b49 (o50 + 3) fun a51 =>
      ldD D w_45 (.int .i64) b20 0 fun n52 =>
      ldD D w_45 (.int .i64) b20 1 fun n53 =>
      ix a48 2 i2 fun b54 o55 =>
      st w_45 b54 o55 [.int .i64 n52, .int .i64 n53] fun w_56 =>
      Mod D w_45 w_56 ∧
      ix a51 1 i2 fun b57 o58 =>
      st w_56 b57 o58 [.bool c17] fun w_59 =>
      Mod D w_45 w_59 ∧
      K 0 w_59))

def N_merge_Merge_asks_winnowref11_Thing : Ann := (.mk none [] [] .done .nil (.mk none [] [] .done .nil (.mk none [] [] .done .nil (.mk none [] [] .done .nil (.mk none [] [] .done (.mk none [] [] .done (.mk (some [.tmp 52 (.leaf (.bool))]) [] [0, 1, 6, 7] (.take 0 (.take 1 (.split 1 (.take 2 (.take 3 (.take 4 (.split 4 (.take 5 (.take 6 (.take 7 (.take 8 (.take 9 (.take 10 (.take 11 (.take 12 (.take 13 (.take 14 (.take 15 (.take 16 (.eff 17 (.take 18 (.take 19 .done))))))))))))))) (.take 5 (.take 6 (.take 7 (.take 8 (.take 9 (.take 10 (.take 11 (.take 12 (.take 13 (.take 14 (.take 15 (.take 16 (.take 17 (.take 18 (.take 19 .done))))))))))))))))))) (.take 2 (.take 3 (.take 4 (.take 5 (.take 6 (.take 7 (.take 8 (.take 9 (.take 10 (.take 11 (.take 12 (.take 13 (.take 14 (.take 15 (.take 16 (.take 17 (.take 18 (.take 19 .done))))))))))))))))))))) .nil .nil) .nil) (.mk none [] [] .done (.mk none [] [] (.take 0 (.take 1 (.take 2 (.take 3 (.take 4 (.take 5 (.take 6 (.take 7 (.take 8 (.take 9 (.take 10 (.take 11 (.take 12 (.eff 13 (.take 14 (.eff 15 .done)))))))))))))))) .nil .nil) .nil))))))

theorem is_merge_Merge_asks_winnowref11_Thing (m1 : PA) (i2 : Int) (K : Int → World → Prop) (w : World) : WF Try.prog CS Try.f41 N_merge_Merge_asks_winnowref11_Thing (.one (.leaf (.int .i64))) [.leaf (.ptr m1), .leaf (.int .i64 i2)] K w = S_merge_Merge_asks_winnowref11_Thing m1 i2 K w := by kernel_rfl
theorem go_merge_Merge_asks_winnowref11_Thing (m1 : PA) (i2 : Int) (K : Int → World → Prop) (w : World) (h : S_merge_Merge_asks_winnowref11_Thing m1 i2 K w) : callK Try.prog 41 [.leaf (.ptr m1), .leaf (.int .i64 i2)] w (.one (.leaf (.int .i64))) K := by
  refine WF_sound (n := N_merge_Merge_asks_winnowref11_Thing) CS_ok mixed Try.func41 ?_
  rw [is_merge_Merge_asks_winnowref11_Thing]
  exact h

-- 42 (*winnow/merge.Merge[winnow/winnowref11.Thing]).plays
def S_merge_Merge_plays_winnowref11_Thing (m1 : PA) (i2 : Int) (K : World → Prop) (w : World) : Prop :=
  dr m1 fun b3 o4 =>
  ld w .sl b3 (o4 + 1) fun a5 =>
  joinK [.int .i64] (fun k6 =>
    loopL [.int .i64, .int .i64] (fun i8 at_9 w_10 again7 =>
      ifK (decide (0 < at_9))
      (dr m1 fun b11 o12 =>
        ld w_10 .sl b11 (o12 + 4) fun a13 =>
        ix a13 1 at_9 fun b14 o15 =>
        ld w_10 (.int .i64) b14 o15 fun n16 =>
        ifK (n16 == (-1))
        (dr m1 fun b17 o18 =>
          ld w_10 .sl b17 (o18 + 4) fun a19 =>
          ix a19 1 at_9 fun b20 o21 =>
          st w_10 b20 o21 [.int .i64 i8] fun w_22 =>
          K w_22)
        (callK Try.prog 56 [.leaf (.ptr m1), .leaf (.int .i64 n16), .leaf (.int .i64 i8)] w_10 (.one (.leaf (.bool))) fun c23 w_24 =>
          joinK [.int .i64] (fun k25 =>
            ifK c23
            (dr m1 fun b26 o27 =>
              ld w_24 .sl b26 (o27 + 4) fun a28 =>
              ix a28 1 at_9 fun b29 o30 =>
              st w_24 b29 o30 [.int .i64 i8] fun w_31 =>
              k25 n16 w_31)
            (k25 i8 w_24)) fun i32 w_33 =>
          again7 i32 (w64 (at_9.tdiv 2)) w_33))
      (k6 i8 w_10)) [.int .i64 i2, .int .i64 (w64 ((w64 (i2 + (a5.len : Int))).tdiv 2))] w) fun i34 w_35 =>
  dr m1 fun b36 o37 =>
  st w_35 b36 (o37 + 5) [.int .i64 i34] fun w_38 =>
  K w_38

def N_merge_Merge_plays_winnowref11_Thing : Ann := (.mk none [] [] .done (.mk none [] [] .done .nil (.mk (some [.tmp 1 (.leaf (.int .i64))]) [] [0] .done (.mk none [.tmp 1 (.leaf (.int .i64)), .tmp 4 (.leaf (.int .i64))] [0] .done (.mk none [] [] .done .nil (.mk none [] [] .done (.mk none [] [] .done (.mk none [] [] .done .nil (.mk none [] [] .done .nil (.mk none [] [] .done .nil (.mk (some [.tmp 1 (.leaf (.int .i64))]) [] [0, 4] .done .nil .nil)))) .nil) .nil)) .nil) .nil)) .nil)

theorem is_merge_Merge_plays_winnowref11_Thing (m1 : PA) (i2 : Int) (K : World → Prop) (w : World) : WF Try.prog CS Try.f42 N_merge_Merge_plays_winnowref11_Thing (.tup []) [.leaf (.ptr m1), .leaf (.int .i64 i2)] K w = S_merge_Merge_plays_winnowref11_Thing m1 i2 K w := by kernel_rfl
theorem go_merge_Merge_plays_winnowref11_Thing (m1 : PA) (i2 : Int) (K : World → Prop) (w : World) (h : S_merge_Merge_plays_winnowref11_Thing m1 i2 K w) : callK Try.prog 42 [.leaf (.ptr m1), .leaf (.int .i64 i2)] w (.tup []) K := by
  refine WF_sound (n := N_merge_Merge_plays_winnowref11_Thing) CS_ok mixed Try.func42 ?_
  rw [is_merge_Merge_plays_winnowref11_Thing]
  exact h

-- 43 (*winnow/merge.Merge[winnow/winnowref11.Thing]).ends
def S_merge_Merge_ends_winnowref11_Thing (m1 : PA) (e2 : Int) (K : Int → World → Prop) (w : World) : Prop :=
  dr m1 fun b3 o4 =>
  st w b3 (o4 + 7) [.lit true] fun w_5 =>
  dr m1 fun b6 o7 =>
  st w_5 b6 (o7 + 8) [.int .i64 e2] fun w_8 =>
  K e2 w_8

def N_merge_Merge_ends_winnowref11_Thing : Ann := .nil

theorem is_merge_Merge_ends_winnowref11_Thing (m1 : PA) (e2 : Int) (K : Int → World → Prop) (w : World) : WF Try.prog CS Try.f43 N_merge_Merge_ends_winnowref11_Thing (.one (.leaf (.int .i64))) [.leaf (.ptr m1), .leaf (.int .i64 e2)] K w = S_merge_Merge_ends_winnowref11_Thing m1 e2 K w := by kernel_rfl
theorem go_merge_Merge_ends_winnowref11_Thing (m1 : PA) (e2 : Int) (K : Int → World → Prop) (w : World) (h : S_merge_Merge_ends_winnowref11_Thing m1 e2 K w) : callK Try.prog 43 [.leaf (.ptr m1), .leaf (.int .i64 e2)] w (.one (.leaf (.int .i64))) K := by
  refine WF_sound (n := N_merge_Merge_ends_winnowref11_Thing) CS_ok mixed Try.func43 ?_
  rw [is_merge_Merge_ends_winnowref11_Thing]
  exact h

-- 44 (*winnow/merge.Merge[winnow/winnowref11.Thing]).All$1
def S_merge_Merge_All_1_winnowref11_Thing (yield1 : Value) (t1B2 : Nat) (t1O3 : Nat) (K : World → Prop) (w : World) : Prop :=
  loopL [] (fun w_5 again4 =>
    ld w_5 .ptr t1B2 t1O3 fun p6 =>
    callK Try.prog 27 [.leaf (.ptr p6)] w_5 (.tup [.agg [.int .i64, .int .i64], .leaf (.bool), .leaf (.int .i64)]) fun n7 n8 c9 n10 w_11 =>
    al w_11 55 [.int .i64 0, .int .i64 0] fun b12 w_13 =>
    st w_13 b12 0 [.int .i64 n7, .int .i64 n8] fun w_14 =>
    joinK [.bool] (fun k15 =>
      ifK (!c9)
      (k15 true w_14)
      (ld w_14 (.int .i64) b12 0 fun n16 =>
        ld w_14 (.int .i64) b12 1 fun n17 =>
        callV Try.prog yield1 [.agg [.int .i64 n16, .int .i64 n17]] w_14 (.one (.leaf (.bool))) fun c18 w_19 =>
        k15 (!c18) w_19)) fun t1920 w_21 =>
    ifK t1920
    (K w_21)
    (again4 w_21)) [] w

def N_merge_Merge_All_1_winnowref11_Thing : Ann := (.mk none [] [] .done (.mk none [] [0, 1] .done (.mk none [] [] .done (.mk none [] [] .done .nil (.mk none [] [] .done (.mk (some [.tmp 19 (.leaf (.bool))]) [] [0, 1] .done .nil .nil) .nil)) .nil) .nil) .nil)

theorem is_merge_Merge_All_1_winnowref11_Thing (yield1 : Value) (t1B2 : Nat) (t1O3 : Nat) (K : World → Prop) (w : World) : WF Try.prog CS Try.f44 N_merge_Merge_All_1_winnowref11_Thing (.tup []) [.leaf (.val yield1), .leaf (.ptr (some (t1B2, t1O3)))] K w = S_merge_Merge_All_1_winnowref11_Thing yield1 t1B2 t1O3 K w := by kernel_rfl
theorem go_merge_Merge_All_1_winnowref11_Thing (yield1 : Value) (t1B2 : Nat) (t1O3 : Nat) (K : World → Prop) (w : World) (h : S_merge_Merge_All_1_winnowref11_Thing yield1 t1B2 t1O3 K w) : callK Try.prog 44 [.leaf (.val yield1), .leaf (.ptr (some (t1B2, t1O3)))] w (.tup []) K := by
  refine WF_sound (n := N_merge_Merge_All_1_winnowref11_Thing) CS_ok mixed Try.func44 ?_
  rw [is_merge_Merge_All_1_winnowref11_Thing]
  exact h

-- 56 (*winnow/merge.Merge[winnow/winnowref11.Thing]).ahead
def S_merge_Merge_ahead_winnowref11_Thing (m1 : PA) (a2 : Int) (b3 : Int) (K : Bool → World → Prop) (w : World) : Prop :=
  joinK [.bool] (fun k4 =>
    dr m1 fun b5 o6 =>
    ld w .sl b5 (o6 + 3) fun a7 =>
    ix a7 1 a2 fun b8 o9 =>
    ld w .bool b8 o9 fun c10 =>
    ifK (!c10)
    (k4 true w)
    (dr m1 fun b11 o12 =>
      ld w .sl b11 (o12 + 3) fun a13 =>
      ix a13 1 b3 fun b14 o15 =>
      ld w .bool b14 o15 fun c16 =>
      k4 (!c16) w)) fun t2517 w_18 =>
  ifK t2517
  (dr m1 fun b19 o20 =>
    ld w_18 .sl b19 (o20 + 3) fun a21 =>
    ix a21 1 a2 fun b22 o23 =>
    ld w_18 .bool b22 o23 fun c24 =>
    K c24 w_18)
  (drawK w_18 fun D w_25 =>
    dr m1 fun b26 o27 =>
    ldD D w_25 .val b26 o27 fun v28 =>
    dr m1 fun b29 o30 =>
    ldD D w_25 .sl b29 (o30 + 2) fun a31 =>
    ix a31 2 a2 fun b32 o33 =>
    ldD D w_25 (.int .i64) b32 o33 fun n34 =>
    ldD D w_25 (.int .i64) b32 (o33 + 1) fun n35 =>
    dr m1 fun b36 o37 =>
    ldD D w_25 .sl b36 (o37 + 2) fun a38 =>
    ix a38 2 b3 fun b39 o40 =>
    ldD D w_25 (.int .i64) b39 o40 fun n41 =>
    ldD D w_25 (.int .i64) b39 (o40 + 1) fun n42 =>
    callV Try.prog v28 [.agg [.int .i64 n34, .int .i64 n35], .agg [.int .i64 n41, .int .i64 n42]] w_25 (.one (.leaf (.int .i64))) fun n43 w_44 =>
    Mod D w_25 w_44 ∧
    joinK [.bool] (fun k45 =>
      ifK (decide (n43 < 0))
      (k45 true w_44)
      (ifK (n43 == 0)
        (k45 (decide (a2 < b3)) w_44)
        (k45 false w_44))) fun t646 w_47 =>
    K t646 w_47)

def N_merge_Merge_ahead_winnowref11_Thing : Ann := (.mk none [] [] .done .nil (.mk none [] [] .done (.mk none [] [] .done (.mk (some [.tmp 25 (.leaf (.bool))]) [] [0, 1, 2] .done .nil .nil) .nil) (.mk none [] [] .done (.mk none [] [] (.take 0 (.take 1 (.take 2 (.take 3 (.take 4 (.take 5 (.take 6 (.take 7 (.take 8 (.take 9 (.take 10 (.take 11 (.take 12 (.take 13 (.take 14 (.take 15 (.take 16 (.take 17 (.eff 18 (.take 19 .done)))))))))))))))))))) .nil .nil) (.mk none [] [] .done (.mk (some [.tmp 6 (.leaf (.bool))]) [] [] .done .nil .nil) .nil))))

theorem is_merge_Merge_ahead_winnowref11_Thing (m1 : PA) (a2 : Int) (b3 : Int) (K : Bool → World → Prop) (w : World) : WF Try.prog CS Try.f56 N_merge_Merge_ahead_winnowref11_Thing (.one (.leaf (.bool))) [.leaf (.ptr m1), .leaf (.int .i64 a2), .leaf (.int .i64 b3)] K w = S_merge_Merge_ahead_winnowref11_Thing m1 a2 b3 K w := by kernel_rfl
theorem go_merge_Merge_ahead_winnowref11_Thing (m1 : PA) (a2 : Int) (b3 : Int) (K : Bool → World → Prop) (w : World) (h : S_merge_Merge_ahead_winnowref11_Thing m1 a2 b3 K w) : callK Try.prog 56 [.leaf (.ptr m1), .leaf (.int .i64 a2), .leaf (.int .i64 b3)] w (.one (.leaf (.bool))) K := by
  refine WF_sound (n := N_merge_Merge_ahead_winnowref11_Thing) CS_ok mixed Try.func56 ?_
  rw [is_merge_Merge_ahead_winnowref11_Thing]
  exact h


end Go.Proofs.Ytfhojgammfkabaa
