/- The typed reading of MergeNone and of a merge of texts. -/
import Derived.Test.YtfhojgammfkabaaS0
namespace Go.Proofs.Ytfhojgammfkabaa
open Go.Vw
-- 9 winnow/winnowlaw11.MergeNone
def S_winnowlaw11_MergeNone  (K : Bool → World → Prop) (w : World) : Prop :=
  al w 4 [.lit false] fun b1 w_2 =>
  callK Try.prog 32 [.leaf (.ptr none)] w_2 (.tup [.leaf (.str), .leaf (.bool), .leaf (.int .i64)]) fun s3 c4 n5 w_6 =>
  callK Try.prog 33 [.leaf (.ptr none)] w_6 (.one (.leaf (.val))) fun v7 w_8 =>
  nilF v7 fun c9 =>
  ifK c9
  (st w_8 b1 0 [.lit false] fun w_10 =>
    ld w_10 .bool b1 0 fun c11 =>
    K c11 w_10)
  (rangeK Try.prog [.leaf (.str)] v7 none w_8 (fun rc20 x19 w_13 beg16 next17 leave18 =>
      beg16 w_13 fun w_21 =>
      st w_21 b1 0 [.lit false] fun w_22 =>
      leave18 0 w_22) (  fun r23 w_24 =>
      al w_24 73 [.sl (⟨none, 0, 0⟩), .int .i64 0, .int .i64 0, .int .i64 0, .lit false, .lit false] fun b25 w_26 =>
      (∀ x ∈ [(.func (.func 34) #[(LV.toV (.ptr (some (b25, 0))))] #[] : Value), (.nilFunc : Value)], isCell x = true) ∧
      al w_26 68 [.val (.func (.func 34) #[(LV.toV (.ptr (some (b25, 0))))] #[]), .val .nilFunc] fun b27 w_28 =>
      callK Try.prog 30 [.leaf (.val (.func (.func 31) #[] #[])), .leaf (.sl (⟨some (b27, 0), 2, 2⟩))] w_28 (.tup [.leaf (.ptr), .leaf (.int .i64)]) fun p29 n30 w_31 =>
      (∀ x ∈ [(.func (.func 34) #[(LV.toV (.ptr (some (b25, 0))))] #[] : Value)], isCell x = true) ∧
      al w_31 68 [.val (.func (.func 34) #[(LV.toV (.ptr (some (b25, 0))))] #[])] fun b32 w_33 =>
      callK Try.prog 30 [.leaf (.val .nilFunc), .leaf (.sl (⟨some (b32, 0), 1, 1⟩))] w_33 (.tup [.leaf (.ptr), .leaf (.int .i64)]) fun p34 n35 w_36 =>
      callK Try.prog 30 [.leaf (.val (.func (.func 31) #[] #[])), .leaf (.sl (⟨none, 0, 0⟩))] w_36 (.tup [.leaf (.ptr), .leaf (.int .i64)]) fun p37 n38 w_39 =>
      joinK [.bool] (fun k40 =>
        ifK (!(s3 == []))
        (k40 true w_39)
        (ifK c4
          (k40 true w_39)
          (ifK (n5 != 1)
            (k40 true w_39)
            (callK Try.prog 35 [.leaf (.ptr none)] w_39 (.one (.leaf (.int .i64))) fun n41 w_42 =>
              ifK (n41 != 1)
              (k40 true w_42)
              (ifK (!p29.isNone)
                (k40 true w_42)
                (ifK (n30 != 1)
                  (k40 true w_42)
                  (ifK (!p34.isNone)
                    (k40 true w_42)
                    (ifK (n35 != 1)
                      (k40 true w_42)
                      (ifK p37.isNone
                        (k40 true w_42)
                        (ifK (n38 != 0)
                          (k40 true w_42)
                          (dr (some (b25, 0)) fun b43 o44 =>
                            ld w_42 (.int .i64) b43 (o44 + 3) fun n45 =>
                            k40 (n45 != 0) w_42))))))))))) fun t9246 w_47 =>
      ifK t9246
      (st w_47 b1 0 [.lit false] fun w_48 =>
        closeK (r23 :: []) w_48 fun w_49 =>
        ld w_49 .bool b1 0 fun c50 =>
        K c50 w_49)
      (callK Try.prog 27 [.leaf (.ptr p37)] w_47 (.tup [.agg [.int .i64, .int .i64], .leaf (.bool), .leaf (.int .i64)]) fun n51 n52 c53 n54 w_55 =>
        al w_55 55 [.int .i64 0, .int .i64 0] fun b56 w_57 =>
        st w_57 b56 0 [.int .i64 n51, .int .i64 n52] fun w_58 =>
        joinK [] (fun k59 =>
          ifK (!c53)
          (ifK (n54 == 0)
            (callK Try.prog 22 [] w_58 (.one (.leaf (.bool))) fun c60 w_61 =>
              st w_61 b1 0 [.bool c60] fun w_62 =>
              k59 w_62)
            (st w_58 b1 0 [.lit false] fun w_63 =>
              k59 w_63))
          (st w_58 b1 0 [.lit false] fun w_64 =>
            k59 w_64)) fun w_65 =>
        closeK (r23 :: []) w_65 fun w_66 =>
        ld w_66 .bool b1 0 fun c67 =>
        K c67 w_66)) [  fun r68 w_69 =>
      closeK (r68 :: []) w_69 fun w_70 =>
      ld w_70 .bool b1 0 fun c71 =>
      K c71 w_70])

def N_winnowlaw11_MergeNone : Ann := (.mk none [] [] .done .nil (.mk none [] [] .done .nil (.mk none [] [] .done .nil (.mk none [] [] .done .nil (.mk none [] [] .done .nil (.mk none [] [] .done (.mk none [] [] .done .nil (.mk none [] [] .done (.range [.leaf (.str)] .nil .nil) .nil)) (.mk none [] [] .done .nil (.mk none [] [] .done .nil (.mk none [] [] .done .nil (.mk none [] [] .done .nil (.mk none [] [] .done (.mk none [] [] .done (.mk (some [.tmp 92 (.leaf (.bool))]) [] [0, 11] .done .nil .nil) .nil) (.mk none [] [] .done .nil (.mk none [] [] .done (.mk (some []) [] [0] .done .nil .nil) .nil)))))))))))))

theorem is_winnowlaw11_MergeNone  (K : Bool → World → Prop) (w : World) : WF Try.prog CS Try.f9 N_winnowlaw11_MergeNone (.one (.leaf (.bool))) [] K w = S_winnowlaw11_MergeNone  K w := by kernel_rfl
theorem go_winnowlaw11_MergeNone  (K : Bool → World → Prop) (w : World) (h : S_winnowlaw11_MergeNone  K w) : callK Try.prog 9 [] w (.one (.leaf (.bool))) K := by
  refine WF_sound (n := N_winnowlaw11_MergeNone) CS_ok mixed Try.func9 ?_
  rw [is_winnowlaw11_MergeNone]
  exact h

-- 32 (*winnow/merge.Merge[string]).Next
def S_merge_Merge_Next_string (m1 : PA) (K : List UInt8 → Bool → Int → World → Prop) (w : World) : Prop :=
  ifK m1.isNone
  (K [] false 1 w)
  (dr m1 fun b2 o3 =>
    ld w .bool b2 (o3 + 7) fun c4 =>
    ifK c4
    (drawK w fun D w_5 =>
      dr m1 fun b6 o7 =>
      ldD D w_5 (.int .i64) b6 (o7 + 8) fun n8 =>
      K [] false n8 w_5)
    (dr m1 fun b9 o10 =>
      ld w .bool b9 (o10 + 6) fun c11 =>
      joinK [] (fun k12 =>
        ifK (!c11)
        (callK Try.prog 45 [.leaf (.ptr m1)] w (.one (.leaf (.int .i64))) fun n13 w_14 =>
          ifK (n13 != 0)
          (K [] false n13 w_14)
          (k12 w_14))
        (dr m1 fun b15 o16 =>
          ld w (.int .i64) b15 (o16 + 5) fun n17 =>
          callK Try.prog 46 [.leaf (.ptr m1), .leaf (.int .i64 n17)] w (.one (.leaf (.int .i64))) fun n18 w_19 =>
          ifK (n18 != 0)
          (K [] false n18 w_19)
          (dr m1 fun b20 o21 =>
            ld w_19 (.int .i64) b20 (o21 + 5) fun n22 =>
            callK Try.prog 47 [.leaf (.ptr m1), .leaf (.int .i64 n22)] w_19 (.tup []) fun w_23 =>
            k12 w_23))) fun w_24 =>
      joinK [.bool] (fun k25 =>
        drawK w_24 fun D w_26 =>
        dr m1 fun b27 o28 =>
        ldD D w_26 .sl b27 (o28 + 1) fun a29 =>
        ifK ((a29.len : Int) == 0)
        (k25 true w_26)
        (dr m1 fun b30 o31 =>
          ldD D w_26 .sl b30 (o31 + 3) fun a32 =>
          dr m1 fun b33 o34 =>
          ldD D w_26 (.int .i64) b33 (o34 + 5) fun n35 =>
          ix a32 1 n35 fun b36 o37 =>
          ldD D w_26 .bool b36 o37 fun c38 =>
          k25 (!c38) w_26)) fun t6539 w_40 =>
      ifK t6539
      (callK Try.prog 48 [.leaf (.ptr m1), .leaf (.int .i64 0)] w_40 (.one (.leaf (.int .i64))) fun n41 w_42 =>
        K [] false n41 w_42)
      (drawK w_40 fun D w_43 =>
        dr m1 fun b44 o45 =>
        ldD D w_43 .sl b44 (o45 + 2) fun a46 =>
        dr m1 fun b47 o48 =>
        ldD D w_43 (.int .i64) b47 (o48 + 5) fun n49 =>
        ix a46 1 n49 fun b50 o51 =>
        ldD D w_43 .str b50 o51 fun s52 =>
        K s52 true 0 w_43)))

def N_merge_Merge_Next_string : Ann := (.mk none [] [] .done .nil (.mk none [] [] .done .nil (.mk none [] [] .done .nil (.mk none [] [] .done (.mk none [] [] .done .nil (.mk none [] [] .done (.mk none [] [] .done (.mk none [] [] (.take 0 (.take 1 (.take 2 (.take 3 (.take 4 (.take 5 (.take 6 (.take 7 .done)))))))) .nil .nil) .nil) .nil)) (.mk none [] [] .done (.mk none [] [] .done .nil (.mk (some []) [] [0, 5] .done .nil .nil)) (.mk none [] [] .done (.mk none [] [] .done (.mk (some [.tmp 65 (.leaf (.bool))]) [] [0, 5] (.take 0 (.take 1 (.take 2 (.take 3 (.take 4 (.take 5 (.take 6 (.split 6 (.take 7 (.take 8 (.take 9 (.take 10 (.take 11 (.take 12 (.take 13 (.take 14 (.take 15 (.take 16 (.take 17 (.take 18 .done)))))))))))) (.take 7 (.take 8 (.take 9 (.take 10 (.take 11 (.take 12 (.take 13 (.take 14 (.take 15 (.take 16 (.take 17 (.take 18 .done)))))))))))))))))))) .nil .nil) .nil) (.mk none [] [] .done (.mk none [] [] (.take 0 (.take 1 (.take 2 (.take 3 (.take 4 (.take 5 (.take 6 (.take 7 (.take 8 (.take 9 (.take 10 (.take 11 (.take 12 .done))))))))))))) .nil .nil) .nil)))))))

theorem is_merge_Merge_Next_string (m1 : PA) (K : List UInt8 → Bool → Int → World → Prop) (w : World) : WF Try.prog CS Try.f32 N_merge_Merge_Next_string (.tup [.leaf (.str), .leaf (.bool), .leaf (.int .i64)]) [.leaf (.ptr m1)] K w = S_merge_Merge_Next_string m1 K w := by kernel_rfl
theorem go_merge_Merge_Next_string (m1 : PA) (K : List UInt8 → Bool → Int → World → Prop) (w : World) (h : S_merge_Merge_Next_string m1 K w) : callK Try.prog 32 [.leaf (.ptr m1)] w (.tup [.leaf (.str), .leaf (.bool), .leaf (.int .i64)]) K := by
  refine WF_sound (n := N_merge_Merge_Next_string) CS_ok mixed Try.func32 ?_
  rw [is_merge_Merge_Next_string]
  exact h

-- 33 (*winnow/merge.Merge[string]).All
def S_merge_Merge_All_string (m1 : PA) (K : Value → World → Prop) (w : World) : Prop :=
  al w 82 [.ptr m1] fun b2 w_3 =>
  K (.func (.func 49) #[] #[(LV.toV (.ptr (some (b2, 0))))]) w_3

def N_merge_Merge_All_string : Ann := .nil

theorem is_merge_Merge_All_string (m1 : PA) (K : Value → World → Prop) (w : World) : WF Try.prog CS Try.f33 N_merge_Merge_All_string (.one (.leaf (.val))) [.leaf (.ptr m1)] K w = S_merge_Merge_All_string m1 K w := by kernel_rfl
theorem go_merge_Merge_All_string (m1 : PA) (K : Value → World → Prop) (w : World) (h : S_merge_Merge_All_string m1 K w) : callK Try.prog 33 [.leaf (.ptr m1)] w (.one (.leaf (.val))) K := by
  refine WF_sound (n := N_merge_Merge_All_string) CS_ok mixed Try.func33 ?_
  rw [is_merge_Merge_All_string]
  exact h

-- 35 (*winnow/merge.Merge[string]).Err
def S_merge_Merge_Err_string (m1 : PA) (K : Int → World → Prop) (w : World) : Prop :=
  ifK m1.isNone
  (K 1 w)
  (dr m1 fun b2 o3 =>
    ld w (.int .i64) b2 (o3 + 8) fun n4 =>
    K n4 w)

def N_merge_Merge_Err_string : Ann := .nil

theorem is_merge_Merge_Err_string (m1 : PA) (K : Int → World → Prop) (w : World) : WF Try.prog CS Try.f35 N_merge_Merge_Err_string (.one (.leaf (.int .i64))) [.leaf (.ptr m1)] K w = S_merge_Merge_Err_string m1 K w := by kernel_rfl
theorem go_merge_Merge_Err_string (m1 : PA) (K : Int → World → Prop) (w : World) (h : S_merge_Merge_Err_string m1 K w) : callK Try.prog 35 [.leaf (.ptr m1)] w (.one (.leaf (.int .i64))) K := by
  refine WF_sound (n := N_merge_Merge_Err_string) CS_ok mixed Try.func35 ?_
  rw [is_merge_Merge_Err_string]
  exact h

-- 49 (*winnow/merge.Merge[string]).All$1
def S_merge_Merge_All_1_string (yield1 : Value) (t1B2 : Nat) (t1O3 : Nat) (K : World → Prop) (w : World) : Prop :=
  loopL [] (fun w_5 again4 =>
    ld w_5 .ptr t1B2 t1O3 fun p6 =>
    callK Try.prog 32 [.leaf (.ptr p6)] w_5 (.tup [.leaf (.str), .leaf (.bool), .leaf (.int .i64)]) fun s7 c8 n9 w_10 =>
    joinK [.bool] (fun k11 =>
      ifK (!c8)
      (k11 true w_10)
      (callV Try.prog yield1 [.leaf (.str s7)] w_10 (.one (.leaf (.bool))) fun c12 w_13 =>
        k11 (!c12) w_13)) fun t1914 w_15 =>
    ifK t1914
    (K w_15)
    (again4 w_15)) [] w

def N_merge_Merge_All_1_string : Ann := (.mk none [] [] .done (.mk none [] [0, 1] .done (.mk none [] [] .done (.mk none [] [] .done .nil (.mk none [] [] .done (.mk (some [.tmp 19 (.leaf (.bool))]) [] [0, 1] .done .nil .nil) .nil)) .nil) .nil) .nil)

theorem is_merge_Merge_All_1_string (yield1 : Value) (t1B2 : Nat) (t1O3 : Nat) (K : World → Prop) (w : World) : WF Try.prog CS Try.f49 N_merge_Merge_All_1_string (.tup []) [.leaf (.val yield1), .leaf (.ptr (some (t1B2, t1O3)))] K w = S_merge_Merge_All_1_string yield1 t1B2 t1O3 K w := by kernel_rfl
theorem go_merge_Merge_All_1_string (yield1 : Value) (t1B2 : Nat) (t1O3 : Nat) (K : World → Prop) (w : World) (h : S_merge_Merge_All_1_string yield1 t1B2 t1O3 K w) : callK Try.prog 49 [.leaf (.val yield1), .leaf (.ptr (some (t1B2, t1O3)))] w (.tup []) K := by
  refine WF_sound (n := N_merge_Merge_All_1_string) CS_ok mixed Try.func49 ?_
  rw [is_merge_Merge_All_1_string]
  exact h


end Go.Proofs.Ytfhojgammfkabaa
