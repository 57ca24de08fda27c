/- Readings: the store's own functions. -/
import Derived.Test.YtjldecomhpngmaaS0
namespace Go.Proofs.Ytjldecomhpngmaa
open Go.Vw
-- 10 winnow/store.New
def S_store_New  (K : PA → World → Prop) (w : World) : Prop :=
  opF Try.prog (vS (Instr.makeMap 73 none)) w (.one (.leaf (.map))) fun m2 w_1 =>
  al w_1 81 [.int .i32 0, .int .u32 0, .map m2, .int .i64 0, .int .i64 0, .int .i64 0] fun b3 w_4 =>
  K (some (b3, 0)) w_4

def N_store_New : Ann := .nil

theorem is_store_New  (K : PA → World → Prop) (w : World) : WF Try.prog CS Try.f10 N_store_New (.one (.leaf (.ptr))) [] K w = S_store_New  K w := by kernel_rfl
theorem go_store_New  (K : PA → World → Prop) (w : World) (h : S_store_New  K w) : callK Try.prog 10 [] w (.one (.leaf (.ptr))) K := by
  refine WF_sound (n := N_store_New) CS_ok mixed Try.func10 ?_
  rw [is_store_New]
  exact h

-- 11 (*winnow/store.Store).Create
def S_store_Store_Create (s1 : PA) (name2 : List UInt8) (K : Int → World → Prop) (w : World) : Prop :=
  ifK s1.isNone
  (K 1 w)
  (dr s1 fun b3 o4 =>
    callK Try.prog 29 [.leaf (.ptr (some (b3, o4)))] w (.tup []) fun w_5 =>
    dr s1 fun b6 o7 =>
    callK Try.prog 31 [.leaf (.ptr s1), .leaf (.str name2)] w_5 (.tup [.leaf (.ptr), .leaf (.int .i64)]) fun p8 n9 w_10 =>
    ifK (n9 == 0)
    (callsK Try.prog [(30, [.leaf (.ptr (some (b6, o7)))])] w_10 fun w_11 =>
      K 51 w_11)
    (ifK (n9 == 52)
      (dr s1 fun b12 o13 =>
        ld w_10 .map b12 (o13 + 2) fun m14 =>
        al w_10 86 [.sl (⟨none, 0, 0⟩), .lit false, .lit false, .int .i64 0, .lit false] fun b15 w_16 =>
        opU Try.prog (uS (Instr.mapUpdate 73 (LV.toV (.map m14)) (LV.toV (.str name2)) (LV.toV (.ptr (some (b15, 0)))))) w_16 fun w_17 =>
        callsK Try.prog [(30, [.leaf (.ptr (some (b6, o7)))])] w_17 fun w_18 =>
        K 0 w_18)
      (callsK Try.prog [(30, [.leaf (.ptr (some (b6, o7)))])] w_10 fun w_19 =>
        K n9 w_19)))

def N_store_Store_Create : Ann := .nil

theorem is_store_Store_Create (s1 : PA) (name2 : List UInt8) (K : Int → World → Prop) (w : World) : WF Try.prog CS Try.f11 N_store_Store_Create (.one (.leaf (.int .i64))) [.leaf (.ptr s1), .leaf (.str name2)] K w = S_store_Store_Create s1 name2 K w := by kernel_rfl
theorem go_store_Store_Create (s1 : PA) (name2 : List UInt8) (K : Int → World → Prop) (w : World) (h : S_store_Store_Create s1 name2 K w) : callK Try.prog 11 [.leaf (.ptr s1), .leaf (.str name2)] w (.one (.leaf (.int .i64))) K := by
  refine WF_sound (n := N_store_Store_Create) CS_ok mixed Try.func11 ?_
  rw [is_store_Store_Create]
  exact h

-- 12 (*winnow/store.Store).Append
def S_store_Store_Append (s1 : PA) (name2 : List UInt8) (b3 : Sl) (K : Int → World → Prop) (w : World) : Prop :=
  ifK s1.isNone
  (K 1 w)
  (dr s1 fun b4 o5 =>
    callK Try.prog 29 [.leaf (.ptr (some (b4, o5)))] w (.tup []) fun w_6 =>
    dr s1 fun b7 o8 =>
    callK Try.prog 32 [.leaf (.ptr s1), .leaf (.str name2)] w_6 (.tup [.leaf (.ptr), .leaf (.int .i64)]) fun p9 n10 w_11 =>
    ifK (n10 != 0)
    (callsK Try.prog [(30, [.leaf (.ptr (some (b7, o8)))])] w_11 fun w_12 =>
      K n10 w_12)
    (dr p9 fun b13 o14 =>
      ld w_11 .sl b13 o14 fun a15 =>
      ifK (decide (268435456 < w64 ((a15.len : Int) + (b3.len : Int))))
      (callsK Try.prog [(30, [.leaf (.ptr (some (b7, o8)))])] w_11 fun w_16 =>
        K 57 w_16)
      (joinK [.bool] (fun k17 =>
          drawK w_11 fun D w_18 =>
          dr p9 fun b19 o20 =>
          ldD D w_18 .bool b19 (o20 + 2) fun c21 =>
          ifK c21
          (dr p9 fun b22 o23 =>
            ldD D w_18 .sl b22 o23 fun a24 =>
            dr p9 fun b25 o26 =>
            ldD D w_18 (.int .i64) b25 (o26 + 3) fun n27 =>
            k17 (decide (n27 < w64 ((a24.len : Int) + (b3.len : Int)))) w_18)
          (k17 false w_18)) fun t5528 w_29 =>
        ifK t5528
        (drawK w_29 fun D w_30 =>
          dr p9 fun b31 o32 =>
          ldD D w_30 (.int .i64) b31 (o32 + 3) fun n33 =>
          dr p9 fun b34 o35 =>
          ldD D w_30 .sl b34 o35 fun a36 =>
          drawK w_30 fun D w_37 =>
          dr p9 fun b38 o39 =>
          ldD D w_37 .sl b38 o39 fun a40 =>
          slx b3 1 none (some (mxI (w64 (n33 - (a36.len : Int))) 0)) none fun s41 =>
          ap w_37 5 1 1 [.int .u8 0] a40 s41 fun a42 w_43 =>
          Mod D w_37 w_43 ∧
          dr p9 fun b44 o45 =>
          st w_43 b44 o45 [.sl a42] fun w_46 =>
          dr p9 fun b47 o48 =>
          st w_46 b47 (o48 + 4) [.lit true] fun w_49 =>
          callsK Try.prog [(30, [.leaf (.ptr (some (b7, o8)))])] w_49 fun w_50 =>
          K 55 w_50)
        (dr p9 fun b51 o52 =>
          ld w_29 .sl b51 o52 fun a53 =>
          ap w_29 5 1 1 [.int .u8 0] a53 b3 fun a54 w_55 =>
          dr p9 fun b56 o57 =>
          st w_55 b56 o57 [.sl a54] fun w_58 =>
          callsK Try.prog [(30, [.leaf (.ptr (some (b7, o8)))])] w_58 fun w_59 =>
          K 0 w_59))))

def N_store_Store_Append : Ann := (.mk none [] [] .done .nil (.mk none [] [] .done .nil (.mk none [] [] .done .nil (.mk none [] [] .done .nil (.mk none [] [] .done .nil (.mk none [] [] .done .nil (.mk none [] [] .done .nil (.mk none [] [] .done (.mk none [] [] .done (.mk (some [.tmp 55 (.leaf (.bool))]) [] [2, 7] (.take 0 (.take 1 (.take 2 (.take 3 (.take 4 (.split 4 (.take 5 (.take 6 (.take 7 (.take 8 (.take 9 (.take 10 (.take 11 (.take 12 (.take 13 (.take 14 (.take 15 (.take 16 (.take 17 (.take 18 .done)))))))))))))) (.take 5 (.take 6 (.take 7 (.take 8 (.take 9 (.take 10 (.take 11 (.take 12 (.take 13 (.take 14 (.take 15 (.take 16 (.take 17 (.take 18 .done)))))))))))))))))))) .nil .nil) (.mk none [] [] .done (.mk none [] [] .done (.mk none [] [] (.take 0 (.take 1 (.take 2 (.take 3 (.take 4 (.take 5 (.take 6 (.take 7 (.take 8 (.take 9 (.take 10 (.take 11 .done)))))))))))) .nil .nil) (.mk none [] [] .done (.mk none [] [] (.take 0 (.take 1 (.take 2 (.take 3 (.take 4 (.take 5 (.take 6 (.take 7 (.eff 8 (.take 9 (.take 10 (.last 11)))))))))))) .nil .nil) .nil)) .nil)) .nil))))))))

theorem is_store_Store_Append (s1 : PA) (name2 : List UInt8) (b3 : Sl) (K : Int → World → Prop) (w : World) : WF Try.prog CS Try.f12 N_store_Store_Append (.one (.leaf (.int .i64))) [.leaf (.ptr s1), .leaf (.str name2), .leaf (.sl b3)] K w = S_store_Store_Append s1 name2 b3 K w := by kernel_rfl
theorem go_store_Store_Append (s1 : PA) (name2 : List UInt8) (b3 : Sl) (K : Int → World → Prop) (w : World) (h : S_store_Store_Append s1 name2 b3 K w) : callK Try.prog 12 [.leaf (.ptr s1), .leaf (.str name2), .leaf (.sl b3)] w (.one (.leaf (.int .i64))) K := by
  refine WF_sound (n := N_store_Store_Append) CS_ok mixed Try.func12 ?_
  rw [is_store_Store_Append]
  exact h

-- 13 (*winnow/store.Store).Publish
def S_store_Store_Publish (s1 : PA) (name2 : List UInt8) (K : Int → World → Prop) (w : World) : Prop :=
  ifK s1.isNone
  (K 1 w)
  (dr s1 fun b3 o4 =>
    callK Try.prog 29 [.leaf (.ptr (some (b3, o4)))] w (.tup []) fun w_5 =>
    dr s1 fun b6 o7 =>
    callK Try.prog 32 [.leaf (.ptr s1), .leaf (.str name2)] w_5 (.tup [.leaf (.ptr), .leaf (.int .i64)]) fun p8 n9 w_10 =>
    ifK (n9 != 0)
    (callsK Try.prog [(30, [.leaf (.ptr (some (b6, o7)))])] w_10 fun w_11 =>
      K n9 w_11)
    (dr p8 fun b12 o13 =>
      ld w_10 .bool b12 (o13 + 2) fun c14 =>
      ifK c14
      (dr p8 fun b15 o16 =>
        st w_10 b15 (o16 + 4) [.lit true] fun w_17 =>
        callsK Try.prog [(30, [.leaf (.ptr (some (b6, o7)))])] w_17 fun w_18 =>
        K 55 w_18)
      (dr p8 fun b19 o20 =>
        st w_10 b19 (o20 + 1) [.lit true] fun w_21 =>
        callsK Try.prog [(30, [.leaf (.ptr (some (b6, o7)))])] w_21 fun w_22 =>
        K 0 w_22)))

def N_store_Store_Publish : Ann := .nil

theorem is_store_Store_Publish (s1 : PA) (name2 : List UInt8) (K : Int → World → Prop) (w : World) : WF Try.prog CS Try.f13 N_store_Store_Publish (.one (.leaf (.int .i64))) [.leaf (.ptr s1), .leaf (.str name2)] K w = S_store_Store_Publish s1 name2 K w := by kernel_rfl
theorem go_store_Store_Publish (s1 : PA) (name2 : List UInt8) (K : Int → World → Prop) (w : World) (h : S_store_Store_Publish s1 name2 K w) : callK Try.prog 13 [.leaf (.ptr s1), .leaf (.str name2)] w (.one (.leaf (.int .i64))) K := by
  refine WF_sound (n := N_store_Store_Publish) CS_ok mixed Try.func13 ?_
  rw [is_store_Store_Publish]
  exact h

-- 14 (*winnow/store.Store).Read
def S_store_Store_Read (s1 : PA) (name2 : List UInt8) (at_3 : Int) (n4 : Int) (K : Sl → Int → World → Prop) (w : World) : Prop :=
  ifK s1.isNone
  (K (⟨none, 0, 0⟩) 1 w)
  (dr s1 fun b5 o6 =>
    callK Try.prog 29 [.leaf (.ptr (some (b5, o6)))] w (.tup []) fun w_7 =>
    dr s1 fun b8 o9 =>
    callK Try.prog 33 [.leaf (.str name2)] w_7 (.one (.leaf (.bool))) fun c10 w_11 =>
    ifK (!c10)
    (callsK Try.prog [(30, [.leaf (.ptr (some (b8, o9)))])] w_11 fun w_12 =>
      K (⟨none, 0, 0⟩) 50 w_12)
    (ifK (decide (n4 < 0))
      (callsK Try.prog [(30, [.leaf (.ptr (some (b8, o9)))])] w_11 fun w_13 =>
        K (⟨none, 0, 0⟩) 3 w_13)
      (callK Try.prog 34 [.leaf (.ptr s1), .leaf (.str name2)] w_11 (.tup [.leaf (.ptr), .leaf (.int .i64)]) fun p14 n15 w_16 =>
        ifK (n15 != 0)
        (callsK Try.prog [(30, [.leaf (.ptr (some (b8, o9)))])] w_16 fun w_17 =>
          K (⟨none, 0, 0⟩) n15 w_17)
        (joinK [.bool] (fun k18 =>
            ifK (decide (at_3 < 0))
            (k18 true w_16)
            (dr p14 fun b19 o20 =>
              ld w_16 .sl b19 o20 fun a21 =>
              k18 (decide ((a21.len : Int) < at_3)) w_16)) fun t4622 w_23 =>
          ifK t4622
          (callsK Try.prog [(30, [.leaf (.ptr (some (b8, o9)))])] w_23 fun w_24 =>
            K (⟨none, 0, 0⟩) 56 w_24)
          (dr p14 fun b25 o26 =>
            ld w_23 .sl b25 o26 fun a27 =>
            slx a27 1 (some at_3) none none fun s28 =>
            dr s1 fun b29 o30 =>
            ld w_23 (.int .i64) b29 (o30 + 3) fun n31 =>
            dr s1 fun b32 o33 =>
            st w_23 b32 (o33 + 3) [.int .i64 (w64 (n31 + 1))] fun w_34 =>
            dr s1 fun b35 o36 =>
            ld w_34 (.int .i64) b35 (o36 + 3 + 1) fun n37 =>
            dr s1 fun b38 o39 =>
            st w_34 b38 (o39 + 3 + 1) [.int .i64 (w64 (n37 + (mnI n4 (s28.len : Int))))] fun w_40 =>
            dr s1 fun b41 o42 =>
            ld w_40 (.int .i64) b41 (o42 + 3 + 2) fun n43 =>
            dr s1 fun b44 o45 =>
            st w_40 b44 (o45 + 3 + 2) [.int .i64 (mxI n43 (mnI n4 (s28.len : Int)))] fun w_46 =>
            slx s28 1 none (some (mnI n4 (s28.len : Int))) (some (mnI n4 (s28.len : Int))) fun s47 =>
            callK Try.prog 35 [.leaf (.sl s47)] w_46 (.one (.leaf (.sl))) fun a48 w_49 =>
            callsK Try.prog [(30, [.leaf (.ptr (some (b8, o9)))])] w_49 fun w_50 =>
            K a48 0 w_50)))))

def N_store_Store_Read : Ann := (.mk none [] [] .done .nil (.mk none [] [] .done .nil (.mk none [] [] .done .nil (.mk none [] [] .done .nil (.mk none [] [] .done .nil (.mk none [] [] .done .nil (.mk none [] [] .done .nil (.mk none [] [] .done .nil (.mk none [] [] .done (.mk none [] [] .done (.mk (some [.tmp 46 (.leaf (.bool))]) [] [0, 2, 3, 10] .done .nil .nil) .nil) .nil)))))))))

theorem is_store_Store_Read (s1 : PA) (name2 : List UInt8) (at_3 : Int) (n4 : Int) (K : Sl → Int → World → Prop) (w : World) : WF Try.prog CS Try.f14 N_store_Store_Read (.tup [.leaf (.sl), .leaf (.int .i64)]) [.leaf (.ptr s1), .leaf (.str name2), .leaf (.int .i64 at_3), .leaf (.int .i64 n4)] K w = S_store_Store_Read s1 name2 at_3 n4 K w := by kernel_rfl
theorem go_store_Store_Read (s1 : PA) (name2 : List UInt8) (at_3 : Int) (n4 : Int) (K : Sl → Int → World → Prop) (w : World) (h : S_store_Store_Read s1 name2 at_3 n4 K w) : callK Try.prog 14 [.leaf (.ptr s1), .leaf (.str name2), .leaf (.int .i64 at_3), .leaf (.int .i64 n4)] w (.tup [.leaf (.sl), .leaf (.int .i64)]) K := by
  refine WF_sound (n := N_store_Store_Read) CS_ok mixed Try.func14 ?_
  rw [is_store_Store_Read]
  exact h

-- 16 (*winnow/store.Store).Meter
def S_store_Store_Meter (s1 : PA) (K : Int → Int → Int → World → Prop) (w : World) : Prop :=
  al w 31 [.int .i64 0, .int .i64 0, .int .i64 0] fun b2 w_3 =>
  ifK s1.isNone
  (st w_3 b2 0 [.int .i64 0, .int .i64 0, .int .i64 0] fun w_4 =>
    ld w_4 (.int .i64) b2 0 fun n5 =>
    ld w_4 (.int .i64) b2 1 fun n6 =>
    ld w_4 (.int .i64) b2 2 fun n7 =>
    K n5 n6 n7 w_4)
  (dr s1 fun b8 o9 =>
    callK Try.prog 29 [.leaf (.ptr (some (b8, o9)))] w_3 (.tup []) fun w_10 =>
    dr s1 fun b11 o12 =>
    dr s1 fun b13 o14 =>
    ld w_10 (.int .i64) b13 (o14 + 3) fun n15 =>
    ld w_10 (.int .i64) b13 (o14 + 3 + 1) fun n16 =>
    ld w_10 (.int .i64) b13 (o14 + 3 + 2) fun n17 =>
    st w_10 b2 0 [.int .i64 n15, .int .i64 n16, .int .i64 n17] fun w_18 =>
    callsK Try.prog [(30, [.leaf (.ptr (some (b11, o12)))])] w_18 fun w_19 =>
    ld w_19 (.int .i64) b2 0 fun n20 =>
    ld w_19 (.int .i64) b2 1 fun n21 =>
    ld w_19 (.int .i64) b2 2 fun n22 =>
    K n20 n21 n22 w_19)

def N_store_Store_Meter : Ann := .nil

theorem is_store_Store_Meter (s1 : PA) (K : Int → Int → Int → World → Prop) (w : World) : WF Try.prog CS Try.f16 N_store_Store_Meter (.one (.agg [.int .i64, .int .i64, .int .i64])) [.leaf (.ptr s1)] K w = S_store_Store_Meter s1 K w := by kernel_rfl
theorem go_store_Store_Meter (s1 : PA) (K : Int → Int → Int → World → Prop) (w : World) (h : S_store_Store_Meter s1 K w) : callK Try.prog 16 [.leaf (.ptr s1)] w (.one (.agg [.int .i64, .int .i64, .int .i64])) K := by
  refine WF_sound (n := N_store_Store_Meter) CS_ok mixed Try.func16 ?_
  rw [is_store_Store_Meter]
  exact h

-- 18 (*winnow/store.Store).Flip
def S_store_Store_Flip (s1 : PA) (name2 : List UInt8) (bit3 : Int) (mask4 : Int) (K : Int → World → Prop) (w : World) : Prop :=
  ifK s1.isNone
  (K 1 w)
  (dr s1 fun b5 o6 =>
    callK Try.prog 29 [.leaf (.ptr (some (b5, o6)))] w (.tup []) fun w_7 =>
    dr s1 fun b8 o9 =>
    callK Try.prog 31 [.leaf (.ptr s1), .leaf (.str name2)] w_7 (.tup [.leaf (.ptr), .leaf (.int .i64)]) fun p10 n11 w_12 =>
    ifK (n11 != 0)
    (callsK Try.prog [(30, [.leaf (.ptr (some (b8, o9)))])] w_12 fun w_13 =>
      K n11 w_13)
    (dr p10 fun b14 o15 =>
      ld w_12 .sl b14 o15 fun a16 =>
      joinK [.bool] (fun k17 =>
        ifK (decide (bit3 < 0))
        (k17 true w_12)
        (k17 (decide (w64 (8 * (a16.len : Int)) ≤ bit3)) w_12)) fun t4418 w_19 =>
      ifK t4418
      (callsK Try.prog [(30, [.leaf (.ptr (some (b8, o9)))])] w_19 fun w_20 =>
        K 56 w_20)
      (joinK [] (fun k21 =>
          loopL [.int .i64] (fun t4523 w_24 again22 =>
            ifK (decide (t4523 < 32))
            (joinK [.bool] (fun k25 =>
                0 ≤ t4523 ∧
                ifK ((bitI .and .u32 (shrI .u32 mask4 t4523) 1) == 1)
                (k25 (decide (w64 (bit3 + t4523) < w64 (8 * (a16.len : Int)))) w_24)
                (k25 false w_24)) fun t6026 w_27 =>
              joinK [] (fun k28 =>
                ifK t6026
                (drawK w_27 fun D w_29 =>
                  dr p10 fun b30 o31 =>
                  ldD D w_29 .sl b30 o31 fun a32 =>
                  ix a32 1 (w64 ((w64 (bit3 + t4523)).tdiv 8)) fun b33 o34 =>
                  ldD D w_29 (.int .u8) b33 o34 fun n35 =>
                  0 ≤ ((w64 (bit3 + t4523)).tmod 8) ∧
                  ix a32 1 (w64 ((w64 (bit3 + t4523)).tdiv 8)) fun b36 o37 =>
                  st w_29 b36 o37 [.int .u8 (bitI .xor .u8 n35 (shlI .u8 1 ((w64 (bit3 + t4523)).tmod 8)))] fun w_38 =>
                  k28 w_38)
                (k28 w_27)) fun w_39 =>
              again22 (w64 (t4523 + 1)) w_39)
            (k21 w_24)) [.int .i64 0] w_19) fun w_40 =>
        callsK Try.prog [(30, [.leaf (.ptr (some (b8, o9)))])] w_40 fun w_41 =>
        K 0 w_41)))

def N_store_Store_Flip : Ann := (.mk none [] [] .done .nil (.mk none [] [] .done .nil (.mk none [] [] .done .nil (.mk none [] [] .done .nil (.mk none [] [] .done .nil (.mk none [] [] .done .nil (.mk none [] [] .done .nil (.mk none [] [] .done (.mk none [] [] .done (.mk (some [.tmp 44 (.leaf (.bool))]) [] [2, 3, 9, 11] .done .nil .nil) .nil) (.mk none [] [] .done (.mk none [] [] .done .nil (.mk (some []) [] [] .done (.mk none [.tmp 45 (.leaf (.int .i64))] [2, 3, 9, 11] .done (.mk none [] [] .done .nil (.mk none [] [] .done .nil (.mk none [] [] .done (.mk none [] [] .done (.mk none [] [] .done .nil (.mk none [] [] .done .nil (.mk none [] [] .done (.mk (some [.tmp 60 (.leaf (.bool))]) [] [2, 3, 9, 11, 13, 45] .done .nil .nil) (.mk (some []) [] [2, 3, 9, 11, 45] .done (.mk none [] [] (.take 0 (.take 1 (.take 2 (.take 3 (.take 4 (.take 5 (.take 6 (.take 7 (.take 8 (.take 9 (.take 10 (.take 11 (.take 12 (.last 13)))))))))))))) .nil .nil) .nil)))) .nil) .nil))) .nil) .nil)) .nil)))))))))

theorem is_store_Store_Flip (s1 : PA) (name2 : List UInt8) (bit3 : Int) (mask4 : Int) (K : Int → World → Prop) (w : World) : WF Try.prog CS Try.f18 N_store_Store_Flip (.one (.leaf (.int .i64))) [.leaf (.ptr s1), .leaf (.str name2), .leaf (.int .i64 bit3), .leaf (.int .u32 mask4)] K w = S_store_Store_Flip s1 name2 bit3 mask4 K w := by kernel_rfl
theorem go_store_Store_Flip (s1 : PA) (name2 : List UInt8) (bit3 : Int) (mask4 : Int) (K : Int → World → Prop) (w : World) (h : S_store_Store_Flip s1 name2 bit3 mask4 K w) : callK Try.prog 18 [.leaf (.ptr s1), .leaf (.str name2), .leaf (.int .i64 bit3), .leaf (.int .u32 mask4)] w (.one (.leaf (.int .i64))) K := by
  refine WF_sound (n := N_store_Store_Flip) CS_ok mixed Try.func18 ?_
  rw [is_store_Store_Flip]
  exact h

-- 19 (*winnow/store.Store).Resize
def S_store_Store_Resize (s1 : PA) (name2 : List UInt8) (by_3 : Int) (K : Int → World → Prop) (w : World) : Prop :=
  ifK s1.isNone
  (K 1 w)
  (dr s1 fun b4 o5 =>
    callK Try.prog 29 [.leaf (.ptr (some (b4, o5)))] w (.tup []) fun w_6 =>
    dr s1 fun b7 o8 =>
    callK Try.prog 31 [.leaf (.ptr s1), .leaf (.str name2)] w_6 (.tup [.leaf (.ptr), .leaf (.int .i64)]) fun p9 n10 w_11 =>
    ifK (n10 != 0)
    (callsK Try.prog [(30, [.leaf (.ptr (some (b7, o8)))])] w_11 fun w_12 =>
      K n10 w_12)
    (dr p9 fun b13 o14 =>
      ld w_11 .sl b13 o14 fun a15 =>
      joinK [.bool] (fun k16 =>
        ifK (decide (by_3 < w64 (0 - (a15.len : Int))))
        (k16 true w_11)
        (k16 (decide (w64 (268435456 - (a15.len : Int)) < by_3)) w_11)) fun t4217 w_18 =>
      ifK t4217
      (callsK Try.prog [(30, [.leaf (.ptr (some (b7, o8)))])] w_18 fun w_19 =>
        K 56 w_19)
      (joinK [] (fun k20 =>
          ifK (decide (0 < by_3))
          (dr p9 fun b21 o22 =>
            ld w_18 .sl b21 o22 fun a23 =>
            opF Try.prog (builtin .append #[22, 2] 22 #[false, false] #[(LV.toV (.sl a23)), (LV.toV (.int .i64 by_3))]) w_18 (.one (.leaf (.sl))) fun a25 w_24 =>
            dr p9 fun b26 o27 =>
            st w_24 b26 o27 [.sl a25] fun w_28 =>
            k20 w_28)
          (dr p9 fun b29 o30 =>
            ld w_18 .sl b29 o30 fun a31 =>
            slx a31 1 none (some (w64 ((a15.len : Int) + by_3))) (some (w64 ((a15.len : Int) + by_3))) fun s32 =>
            dr p9 fun b33 o34 =>
            st w_18 b33 o34 [.sl s32] fun w_35 =>
            k20 w_35)) fun w_36 =>
        callsK Try.prog [(30, [.leaf (.ptr (some (b7, o8)))])] w_36 fun w_37 =>
        K 0 w_37)))

def N_store_Store_Resize : Ann := (.mk none [] [] .done .nil (.mk none [] [] .done .nil (.mk none [] [] .done .nil (.mk none [] [] .done .nil (.mk none [] [] .done .nil (.mk none [] [] .done .nil (.mk none [] [] .done .nil (.mk none [] [] .done (.mk none [] [] .done (.mk (some [.tmp 42 (.leaf (.bool))]) [] [2, 7, 9] .done .nil .nil) .nil) (.mk none [] [] .done (.mk none [] [] .done .nil (.mk (some []) [] [] .done .nil .nil)) .nil)))))))))

theorem is_store_Store_Resize (s1 : PA) (name2 : List UInt8) (by_3 : Int) (K : Int → World → Prop) (w : World) : WF Try.prog CS Try.f19 N_store_Store_Resize (.one (.leaf (.int .i64))) [.leaf (.ptr s1), .leaf (.str name2), .leaf (.int .i64 by_3)] K w = S_store_Store_Resize s1 name2 by_3 K w := by kernel_rfl
theorem go_store_Store_Resize (s1 : PA) (name2 : List UInt8) (by_3 : Int) (K : Int → World → Prop) (w : World) (h : S_store_Store_Resize s1 name2 by_3 K w) : callK Try.prog 19 [.leaf (.ptr s1), .leaf (.str name2), .leaf (.int .i64 by_3)] w (.one (.leaf (.int .i64))) K := by
  refine WF_sound (n := N_store_Store_Resize) CS_ok mixed Try.func19 ?_
  rw [is_store_Store_Resize]
  exact h

-- 20 (*winnow/store.Store).Size
def S_store_Store_Size (s1 : PA) (name2 : List UInt8) (K : Int → Int → World → Prop) (w : World) : Prop :=
  ifK s1.isNone
  (K 0 1 w)
  (dr s1 fun b3 o4 =>
    callK Try.prog 29 [.leaf (.ptr (some (b3, o4)))] w (.tup []) fun w_5 =>
    dr s1 fun b6 o7 =>
    callK Try.prog 34 [.leaf (.ptr s1), .leaf (.str name2)] w_5 (.tup [.leaf (.ptr), .leaf (.int .i64)]) fun p8 n9 w_10 =>
    ifK (n9 != 0)
    (callsK Try.prog [(30, [.leaf (.ptr (some (b6, o7)))])] w_10 fun w_11 =>
      K 0 n9 w_11)
    (dr p8 fun b12 o13 =>
      ld w_10 .sl b12 o13 fun a14 =>
      callsK Try.prog [(30, [.leaf (.ptr (some (b6, o7)))])] w_10 fun w_15 =>
      K (a14.len : Int) 0 w_15))

def N_store_Store_Size : Ann := .nil

theorem is_store_Store_Size (s1 : PA) (name2 : List UInt8) (K : Int → Int → World → Prop) (w : World) : WF Try.prog CS Try.f20 N_store_Store_Size (.tup [.leaf (.int .i64), .leaf (.int .i64)]) [.leaf (.ptr s1), .leaf (.str name2)] K w = S_store_Store_Size s1 name2 K w := by kernel_rfl
theorem go_store_Store_Size (s1 : PA) (name2 : List UInt8) (K : Int → Int → World → Prop) (w : World) (h : S_store_Store_Size s1 name2 K w) : callK Try.prog 20 [.leaf (.ptr s1), .leaf (.str name2)] w (.tup [.leaf (.int .i64), .leaf (.int .i64)]) K := by
  refine WF_sound (n := N_store_Store_Size) CS_ok mixed Try.func20 ?_
  rw [is_store_Store_Size]
  exact h

-- 22 (*winnow/store.Store).StopAt
def S_store_Store_StopAt (s1 : PA) (name2 : List UInt8) (n3 : Int) (K : Int → World → Prop) (w : World) : Prop :=
  ifK s1.isNone
  (K 1 w)
  (dr s1 fun b4 o5 =>
    callK Try.prog 29 [.leaf (.ptr (some (b4, o5)))] w (.tup []) fun w_6 =>
    dr s1 fun b7 o8 =>
    callK Try.prog 32 [.leaf (.ptr s1), .leaf (.str name2)] w_6 (.tup [.leaf (.ptr), .leaf (.int .i64)]) fun p9 n10 w_11 =>
    ifK (n10 != 0)
    (callsK Try.prog [(30, [.leaf (.ptr (some (b7, o8)))])] w_11 fun w_12 =>
      K n10 w_12)
    (dr p9 fun b13 o14 =>
      st w_11 b13 (o14 + 2) [.lit true] fun w_15 =>
      dr p9 fun b16 o17 =>
      st w_15 b16 (o17 + 3) [.int .i64 (mxI n3 0)] fun w_18 =>
      callsK Try.prog [(30, [.leaf (.ptr (some (b7, o8)))])] w_18 fun w_19 =>
      K 0 w_19))

def N_store_Store_StopAt : Ann := .nil

theorem is_store_Store_StopAt (s1 : PA) (name2 : List UInt8) (n3 : Int) (K : Int → World → Prop) (w : World) : WF Try.prog CS Try.f22 N_store_Store_StopAt (.one (.leaf (.int .i64))) [.leaf (.ptr s1), .leaf (.str name2), .leaf (.int .i64 n3)] K w = S_store_Store_StopAt s1 name2 n3 K w := by kernel_rfl
theorem go_store_Store_StopAt (s1 : PA) (name2 : List UInt8) (n3 : Int) (K : Int → World → Prop) (w : World) (h : S_store_Store_StopAt s1 name2 n3 K w) : callK Try.prog 22 [.leaf (.ptr s1), .leaf (.str name2), .leaf (.int .i64 n3)] w (.one (.leaf (.int .i64))) K := by
  refine WF_sound (n := N_store_Store_StopAt) CS_ok mixed Try.func22 ?_
  rw [is_store_Store_StopAt]
  exact h

-- 29 (*sync.Mutex).Lock
def S_sync_Mutex_Lock (m1 : PA) (K : World → Prop) (w : World) : Prop :=
  dr m1 fun b2 o3 =>
  callK Try.prog 55 [.leaf (.ptr (some (b2, o3)))] w (.tup []) fun w_4 =>
  K w_4

def N_sync_Mutex_Lock : Ann := .nil

theorem is_sync_Mutex_Lock (m1 : PA) (K : World → Prop) (w : World) : WF Try.prog CS Try.f29 N_sync_Mutex_Lock (.tup []) [.leaf (.ptr m1)] K w = S_sync_Mutex_Lock m1 K w := by kernel_rfl
theorem go_sync_Mutex_Lock (m1 : PA) (K : World → Prop) (w : World) (h : S_sync_Mutex_Lock m1 K w) : callK Try.prog 29 [.leaf (.ptr m1)] w (.tup []) K := by
  refine WF_sound (n := N_sync_Mutex_Lock) CS_ok mixed Try.func29 ?_
  rw [is_sync_Mutex_Lock]
  exact h

-- 30 (*sync.Mutex).Unlock
def S_sync_Mutex_Unlock (m1 : PA) (K : World → Prop) (w : World) : Prop :=
  dr m1 fun b2 o3 =>
  callK Try.prog 56 [.leaf (.ptr (some (b2, o3)))] w (.tup []) fun w_4 =>
  K w_4

def N_sync_Mutex_Unlock : Ann := .nil

theorem is_sync_Mutex_Unlock (m1 : PA) (K : World → Prop) (w : World) : WF Try.prog CS Try.f30 N_sync_Mutex_Unlock (.tup []) [.leaf (.ptr m1)] K w = S_sync_Mutex_Unlock m1 K w := by kernel_rfl
theorem go_sync_Mutex_Unlock (m1 : PA) (K : World → Prop) (w : World) (h : S_sync_Mutex_Unlock m1 K w) : callK Try.prog 30 [.leaf (.ptr m1)] w (.tup []) K := by
  refine WF_sound (n := N_sync_Mutex_Unlock) CS_ok mixed Try.func30 ?_
  rw [is_sync_Mutex_Unlock]
  exact h

-- 31 (*winnow/store.Store).find
def S_store_Store_find (s1 : PA) (name2 : List UInt8) (K : PA → Int → World → Prop) (w : World) : Prop :=
  callK Try.prog 33 [.leaf (.str name2)] w (.one (.leaf (.bool))) fun c3 w_4 =>
  ifK (!c3)
  (K none 50 w_4)
  (dr s1 fun b5 o6 =>
    ld w_4 .map b5 (o6 + 2) fun m7 =>
    opF Try.prog (vS (Instr.lookup 73 (LV.toV (.map m7)) (LV.toV (.str name2)) true)) w_4 (.tup [.leaf (.ptr), .leaf (.bool)]) fun p9 c10 w_8 =>
    ifK (!c10)
    (K none 52 w_8)
    (K p9 0 w_8))

def N_store_Store_find : Ann := .nil

theorem is_store_Store_find (s1 : PA) (name2 : List UInt8) (K : PA → Int → World → Prop) (w : World) : WF Try.prog CS Try.f31 N_store_Store_find (.tup [.leaf (.ptr), .leaf (.int .i64)]) [.leaf (.ptr s1), .leaf (.str name2)] K w = S_store_Store_find s1 name2 K w := by kernel_rfl
theorem go_store_Store_find (s1 : PA) (name2 : List UInt8) (K : PA → Int → World → Prop) (w : World) (h : S_store_Store_find s1 name2 K w) : callK Try.prog 31 [.leaf (.ptr s1), .leaf (.str name2)] w (.tup [.leaf (.ptr), .leaf (.int .i64)]) K := by
  refine WF_sound (n := N_store_Store_find) CS_ok mixed Try.func31 ?_
  rw [is_store_Store_find]
  exact h

-- 32 (*winnow/store.Store).writable
def S_store_Store_writable (s1 : PA) (name2 : List UInt8) (K : PA → Int → World → Prop) (w : World) : Prop :=
  callK Try.prog 31 [.leaf (.ptr s1), .leaf (.str name2)] w (.tup [.leaf (.ptr), .leaf (.int .i64)]) fun p3 n4 w_5 =>
  ifK (n4 != 0)
  (K none n4 w_5)
  (dr p3 fun b6 o7 =>
    ld w_5 .bool b6 (o7 + 1) fun c8 =>
    ifK c8
    (K none 54 w_5)
    (dr p3 fun b9 o10 =>
      ld w_5 .bool b9 (o10 + 4) fun c11 =>
      ifK c11
      (K none 55 w_5)
      (K p3 0 w_5)))

def N_store_Store_writable : Ann := .nil

theorem is_store_Store_writable (s1 : PA) (name2 : List UInt8) (K : PA → Int → World → Prop) (w : World) : WF Try.prog CS Try.f32 N_store_Store_writable (.tup [.leaf (.ptr), .leaf (.int .i64)]) [.leaf (.ptr s1), .leaf (.str name2)] K w = S_store_Store_writable s1 name2 K w := by kernel_rfl
theorem go_store_Store_writable (s1 : PA) (name2 : List UInt8) (K : PA → Int → World → Prop) (w : World) (h : S_store_Store_writable s1 name2 K w) : callK Try.prog 32 [.leaf (.ptr s1), .leaf (.str name2)] w (.tup [.leaf (.ptr), .leaf (.int .i64)]) K := by
  refine WF_sound (n := N_store_Store_writable) CS_ok mixed Try.func32 ?_
  rw [is_store_Store_writable]
  exact h

-- 33 winnow/store.goodName
def S_store_goodName (name1 : List UInt8) (K : Bool → World → Prop) (w : World) : Prop :=
  joinK [.bool] (fun k2 =>
    ifK (decide ((name1.length : Int) < 1))
    (k2 true w)
    (k2 (decide (40 < (name1.length : Int))) w)) fun t123 w_4 =>
  ifK t123
  (K false w_4)
  (joinK [] (fun k5 =>
      loopL [.int .i64] (fun t157 w_8 again6 =>
        ifK (decide (t157 < (name1.length : Int)))
        (sx name1 t157 fun c9 =>
          joinK [.bool] (fun k10 =>
            ifK (decide (c9 < 97))
            (ifK (decide (c9 < 48))
              (ifK (c9 != 46)
                (k10 (c9 != 45) w_8)
                (k10 false w_8))
              (ifK (decide (57 < c9))
                (ifK (c9 != 46)
                  (k10 (c9 != 45) w_8)
                  (k10 false w_8))
                (k10 false w_8)))
            (ifK (decide (122 < c9))
              (ifK (decide (c9 < 48))
                (ifK (c9 != 46)
                  (k10 (c9 != 45) w_8)
                  (k10 false w_8))
                (ifK (decide (57 < c9))
                  (ifK (c9 != 46)
                    (k10 (c9 != 45) w_8)
                    (k10 false w_8))
                  (k10 false w_8)))
              (k10 false w_8))) fun t4211 w_12 =>
          ifK t4211
          (K false w_12)
          (again6 (w64 (t157 + 1)) w_12))
        (k5 w_8)) [.int .i64 0] w_4) fun w_13 =>
    K true w_13)

def N_store_goodName : Ann := (.mk none [] [] .done .nil (.mk none [] [] .done (.mk none [] [] .done (.mk (some [.tmp 12 (.leaf (.bool))]) [] [0] .done .nil .nil) .nil) (.mk none [] [] .done (.mk none [] [] .done .nil (.mk (some []) [] [] .done (.mk none [.tmp 15 (.leaf (.int .i64))] [0, 14] .done (.mk none [] [] .done .nil (.mk none [] [] .done .nil (.mk none [] [] .done (.mk none [] [] .done (.mk none [] [] .done .nil (.mk none [] [] .done .nil (.mk none [] [] .done (.mk (some [.tmp 42 (.leaf (.bool))]) [] [0, 14, 15] .done .nil .nil) .nil))) .nil) .nil))) .nil) .nil)) .nil)))

theorem is_store_goodName (name1 : List UInt8) (K : Bool → World → Prop) (w : World) : WF Try.prog CS Try.f33 N_store_goodName (.one (.leaf (.bool))) [.leaf (.str name1)] K w = S_store_goodName name1 K w := by kernel_rfl
theorem go_store_goodName (name1 : List UInt8) (K : Bool → World → Prop) (w : World) (h : S_store_goodName name1 K w) : callK Try.prog 33 [.leaf (.str name1)] w (.one (.leaf (.bool))) K := by
  refine WF_sound (n := N_store_goodName) CS_ok mixed Try.func33 ?_
  rw [is_store_goodName]
  exact h

-- 34 (*winnow/store.Store).readable
def S_store_Store_readable (s1 : PA) (name2 : List UInt8) (K : PA → Int → World → Prop) (w : World) : Prop :=
  callK Try.prog 31 [.leaf (.ptr s1), .leaf (.str name2)] w (.tup [.leaf (.ptr), .leaf (.int .i64)]) fun p3 n4 w_5 =>
  ifK (n4 != 0)
  (K none n4 w_5)
  (dr p3 fun b6 o7 =>
    ld w_5 .bool b6 (o7 + 1) fun c8 =>
    ifK (!c8)
    (K none 53 w_5)
    (K p3 0 w_5))

def N_store_Store_readable : Ann := .nil

theorem is_store_Store_readable (s1 : PA) (name2 : List UInt8) (K : PA → Int → World → Prop) (w : World) : WF Try.prog CS Try.f34 N_store_Store_readable (.tup [.leaf (.ptr), .leaf (.int .i64)]) [.leaf (.ptr s1), .leaf (.str name2)] K w = S_store_Store_readable s1 name2 K w := by kernel_rfl
theorem go_store_Store_readable (s1 : PA) (name2 : List UInt8) (K : PA → Int → World → Prop) (w : World) (h : S_store_Store_readable s1 name2 K w) : callK Try.prog 34 [.leaf (.ptr s1), .leaf (.str name2)] w (.tup [.leaf (.ptr), .leaf (.int .i64)]) K := by
  refine WF_sound (n := N_store_Store_readable) CS_ok mixed Try.func34 ?_
  rw [is_store_Store_readable]
  exact h

-- 35 slices.Clone[[]byte,byte]
def S_slices_Clone_byte_byte (s1 : Sl) (K : Sl → World → Prop) (w : World) : Prop :=
  ifK s1.p.isNone
  (K (⟨none, 0, 0⟩) w)
  (al w 5 [] fun b2 w_3 =>
    ap w_3 5 1 1 [.int .u8 0] (⟨some (b2, 0), 0, 0⟩) s1 fun a4 w_5 =>
    K a4 w_5)

def N_slices_Clone_byte_byte : Ann := .nil

theorem is_slices_Clone_byte_byte (s1 : Sl) (K : Sl → World → Prop) (w : World) : WF Try.prog CS Try.f35 N_slices_Clone_byte_byte (.one (.leaf (.sl))) [.leaf (.sl s1)] K w = S_slices_Clone_byte_byte s1 K w := by kernel_rfl
theorem go_slices_Clone_byte_byte (s1 : Sl) (K : Sl → World → Prop) (w : World) (h : S_slices_Clone_byte_byte s1 K w) : callK Try.prog 35 [.leaf (.sl s1)] w (.one (.leaf (.sl))) K := by
  refine WF_sound (n := N_slices_Clone_byte_byte) CS_ok mixed Try.func35 ?_
  rw [is_slices_Clone_byte_byte]
  exact h

-- 46 (*winnow/store.Store).Delete
def S_store_Store_Delete (s1 : PA) (name2 : List UInt8) (K : Int → World → Prop) (w : World) : Prop :=
  ifK s1.isNone
  (K 1 w)
  (dr s1 fun b3 o4 =>
    callK Try.prog 29 [.leaf (.ptr (some (b3, o4)))] w (.tup []) fun w_5 =>
    dr s1 fun b6 o7 =>
    callK Try.prog 31 [.leaf (.ptr s1), .leaf (.str name2)] w_5 (.tup [.leaf (.ptr), .leaf (.int .i64)]) fun p8 n9 w_10 =>
    ifK (n9 != 0)
    (callsK Try.prog [(30, [.leaf (.ptr (some (b6, o7)))])] w_10 fun w_11 =>
      K n9 w_11)
    (dr s1 fun b12 o13 =>
      ld w_10 .map b12 (o13 + 2) fun m14 =>
      opF Try.prog (builtin .delete #[73, 9] 0 #[false, false] #[(LV.toV (.map m14)), (LV.toV (.str name2))]) w_10 (.tup []) fun w_15 =>
      callsK Try.prog [(30, [.leaf (.ptr (some (b6, o7)))])] w_15 fun w_16 =>
      K 0 w_16))

def N_store_Store_Delete : Ann := .nil

theorem is_store_Store_Delete (s1 : PA) (name2 : List UInt8) (K : Int → World → Prop) (w : World) : WF Try.prog CS Try.f46 N_store_Store_Delete (.one (.leaf (.int .i64))) [.leaf (.ptr s1), .leaf (.str name2)] K w = S_store_Store_Delete s1 name2 K w := by kernel_rfl
theorem go_store_Store_Delete (s1 : PA) (name2 : List UInt8) (K : Int → World → Prop) (w : World) (h : S_store_Store_Delete s1 name2 K w) : callK Try.prog 46 [.leaf (.ptr s1), .leaf (.str name2)] w (.one (.leaf (.int .i64))) K := by
  refine WF_sound (n := N_store_Store_Delete) CS_ok mixed Try.func46 ?_
  rw [is_store_Store_Delete]
  exact h


end Go.Proofs.Ytjldecomhpngmaa
