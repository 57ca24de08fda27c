/- Readings: SpillNil. -/
import Derived.Test.YtjefbjfifjjpmabGreatS0
namespace Go.Proofs.YtjefbjfifjjpmabGreat
open Go.Vw
-- 3 winnow/winnowlaw9.SpillNil
def S_winnowlaw9_SpillNil (r_0_1 : Int) (r_1_2 : List UInt8) (r_2_3 : List UInt8) (K : Bool → World → Prop) (w : World) : Prop :=
  al w 23 [.int .i64 r_0_1, .str r_1_2, .str r_2_3] fun b4 w_5 =>
  callK Tryz.prog 4 [.leaf (.ptr none)] w_5 (.tup [.leaf (.int .i64), .leaf (.int .i64), .leaf (.int .i64)]) fun n6 n7 n8 w_9 =>
  ld w_9 (.int .i64) b4 0 fun n10 =>
  callK Tryz.prog 5 [.leaf (.ptr none), .leaf (.int .i64 n10)] w_9 (.tup [.leaf (.int .i64), .leaf (.int .i64)]) fun n11 n12 w_13 =>
  ld w_13 (.int .i64) b4 0 fun n14 =>
  callK Tryz.prog 6 [.leaf (.ptr none), .leaf (.int .i64 n14)] w_13 (.tup [.leaf (.ptr), .leaf (.int .i64)]) fun p15 n16 w_17 =>
  ld w_17 (.int .i64) b4 0 fun n18 =>
  ld w_17 .str b4 1 fun s19 =>
  callK Tryz.prog 7 [.leaf (.ptr none), .leaf (.int .i64 n18), .leaf (.str s19)] w_17 (.tup [.leaf (.ptr), .leaf (.int .i64)]) fun p20 n21 w_22 =>
  ld w_22 (.int .i64) b4 0 fun n23 =>
  ld w_22 .str b4 1 fun s24 =>
  callK Tryz.prog 8 [.leaf (.ptr none), .leaf (.int .i64 n23), .leaf (.str s24)] w_22 (.tup [.leaf (.bool), .leaf (.int .i64)]) fun c25 n26 w_27 =>
  callK Tryz.prog 9 [.leaf (.ptr none)] w_27 (.tup [.agg [.str, .str], .leaf (.bool), .leaf (.int .i64)]) fun s28 s29 c30 n31 w_32 =>
  al w_32 38 [.str [], .str []] fun b33 w_34 =>
  st w_34 b33 0 [.str s28, .str s29] fun w_35 =>
  joinK [.bool] (fun k36 =>
    ld w_35 (.int .i64) b4 0 fun n37 =>
    ld w_35 .str b4 1 fun s38 =>
    ld w_35 .str b4 2 fun s39 =>
    callK Tryz.prog 10 [.leaf (.ptr none), .agg [.int .i64 n37, .str s38, .str s39]] w_35 (.one (.leaf (.int .i64))) fun n40 w_41 =>
    ifK (n40 == 1)
    (ifK (n6 == 0)
      (ifK (n7 == 0)
        (ifK (n8 == 1)
          (callK Tryz.prog 11 [.leaf (.ptr none)] w_41 (.one (.leaf (.int .i64))) fun n42 w_43 =>
            ifK (n42 == 0)
            (callK Tryz.prog 13 [.leaf (.ptr none)] w_43 (.one (.agg [.int .i64, .sl])) fun n44 a45 w_46 =>
              callK Tryz.prog 12 [.agg [.int .i64 n44, .sl a45], .agg [.int .i64 0, .sl (⟨none, 0, 0⟩)]] w_46 (.one (.leaf (.bool))) fun c47 w_48 =>
              ifK c47
              (ifK (n11 == 0)
                (ifK (n12 == n8)
                  (ifK p15.isNone
                    (k36 (n16 == n8) w_48)
                    (k36 false w_48))
                  (k36 false w_48))
                (k36 false w_48))
              (k36 false w_48))
            (k36 false w_43))
          (k36 false w_41))
        (k36 false w_41))
      (k36 false w_41))
    (k36 false w_41)) fun ok49 w_50 =>
  joinK [.bool] (fun k51 =>
    ifK ok49
    (ifK p20.isNone
      (ifK (n21 == n8)
        (ifK (!c25)
          (ifK (n26 == n8)
            (ld w_50 .str b33 0 fun s52 =>
              ld w_50 .str b33 1 fun s53 =>
              opF Tryz.prog (vS (do eqGuard .eql 38 (.tmp 130) (.tmp 131) (.agg #[(LV.toV (.str s52)), (LV.toV (.str s53))]) (.agg #[(LV.toV (.str [])), (LV.toV (.str []))]); binOp .eql 38 (.agg #[(LV.toV (.str s52)), (LV.toV (.str s53))]) (.agg #[(LV.toV (.str [])), (LV.toV (.str []))]))) w_50 (.one (.leaf (.bool))) fun c55 w_54 =>
              ifK c55
              (ifK (!c30)
                (k51 (n31 == n8) w_54)
                (k51 false w_54))
              (k51 false w_54))
            (k51 false w_50))
          (k51 false w_50))
        (k51 false w_50))
      (k51 false w_50))
    (k51 false w_50)) fun t256 w_57 =>
  K t256 w_57

def N_winnowlaw9_SpillNil : Ann := (.mk none [] [] .done .nil (.mk none [] [] .done .nil (.mk none [] [] .done .nil (.mk none [] [] .done .nil (.mk none [] [] .done .nil (.mk none [] [] .done .nil (.mk none [] [] .done .nil (.mk none [] [] .done .nil (.mk none [] [] .done .nil (.mk none [] [] .done .nil (.mk none [] [] .done (.mk (some [.tmp 20 (.leaf (.bool))]) [] [8, 13, 14, 15, 16, 17, 18, 19] .done .nil .nil) (.mk none [] [] .done (.mk (some [.tmp 2 (.leaf (.bool))]) [] [] .done .nil .nil) .nil))))))))))))

theorem is_winnowlaw9_SpillNil (r_0_1 : Int) (r_1_2 : List UInt8) (r_2_3 : List UInt8) (K : Bool → World → Prop) (w : World) : WF Tryz.prog CS Tryz.f3 N_winnowlaw9_SpillNil (.one (.leaf (.bool))) [.agg [.int .i64 r_0_1, .str r_1_2, .str r_2_3]] K w = S_winnowlaw9_SpillNil r_0_1 r_1_2 r_2_3 K w := by kernel_rfl
theorem go_winnowlaw9_SpillNil (r_0_1 : Int) (r_1_2 : List UInt8) (r_2_3 : List UInt8) (K : Bool → World → Prop) (w : World) (h : S_winnowlaw9_SpillNil r_0_1 r_1_2 r_2_3 K w) : callK Tryz.prog 3 [.agg [.int .i64 r_0_1, .str r_1_2, .str r_2_3]] w (.one (.leaf (.bool))) K := by
  refine WF_sound (n := N_winnowlaw9_SpillNil) CS_ok mixed Tryz.func3 ?_
  rw [is_winnowlaw9_SpillNil]
  exact h

-- 4 (*winnow/spill.Writer).Close
def S_spill_Writer_Close (w_1 : PA) (K : Int → Int → Int → World → Prop) (w : World) : Prop :=
  ifK w_1.isNone
  (K 0 0 1 w)
  (dr w_1 fun b2 o3 =>
    ld w .bool b2 (o3 + 16) fun c4 =>
    ifK c4
    (K 0 0 4 w)
    (dr w_1 fun b5 o6 =>
      ld w (.int .i64) b5 (o6 + 15) fun n7 =>
      ifK (n7 != 0)
      (drawK w fun D w_8 =>
        dr w_1 fun b9 o10 =>
        ldD D w_8 (.int .i64) b9 (o10 + 15) fun n11 =>
        K 0 0 n11 w_8)
      (callK Tryz.prog 14 [.leaf (.ptr w_1)] w (.one (.leaf (.int .i64))) fun n12 w_13 =>
        ifK (n12 != 0)
        (K 0 0 n12 w_13)
        (callK Tryz.prog 15 [.leaf (.ptr w_1)] w_13 (.tup []) fun w_14 =>
          dr w_1 fun b15 o16 =>
          ld w_14 (.int .i64) b15 (o16 + 5) fun n17 =>
          ld w_14 .sl b15 (o16 + 5 + 1) fun a18 =>
          callK Tryz.prog 16 [.agg [.int .i64 n17, .sl a18]] w_14 (.tup [.leaf (.sl), .leaf (.int .i64)]) fun a19 n20 w_21 =>
          ifK (n20 != 0)
          (dr w_1 fun b22 o23 =>
            st w_21 b22 (o23 + 15) [.int .i64 62] fun w_24 =>
            K 0 0 62 w_24)
          (callK Tryz.prog 17 [.leaf (.ptr w_1), .leaf (.sl a19)] w_21 (.one (.leaf (.int .i64))) fun n25 w_26 =>
            ifK (n25 != 0)
            (K 0 0 n25 w_26)
            (dr w_1 fun b27 o28 =>
              st w_26 b27 (o28 + 16) [.lit true] fun w_29 =>
              drawK w_29 fun D w_30 =>
              dr w_1 fun b31 o32 =>
              ldD D w_30 (.int .i64) b31 (o32 + 13) fun n33 =>
              dr w_1 fun b34 o35 =>
              ldD D w_30 (.int .i64) b34 (o35 + 14) fun n36 =>
              K n33 n36 0 w_30))))))

def N_spill_Writer_Close : Ann := (.mk none [] [] .done .nil (.mk none [] [] .done (.mk none [] [] .done (.mk none [] [] .done .nil (.mk none [] [] .done .nil (.mk none [] [] .done .nil (.mk none [] [] .done .nil (.mk none [] [] .done .nil (.mk none [] [] .done (.mk none [] [] .done (.mk none [] [] (.take 0 (.take 1 (.take 2 (.take 3 (.take 4 (.take 5 (.take 6 .done))))))) .nil .nil) .nil) .nil)))))) .nil) (.mk none [] [] .done .nil (.mk none [] [] .done .nil (.mk none [] [] .done .nil (.mk none [] [] .done .nil (.mk none [] [] .done .nil (.mk none [] [] .done .nil (.mk none [] [] .done (.mk none [] [] (.take 0 (.take 1 (.take 2 (.take 3 (.take 4 (.take 5 (.take 6 (.take 7 (.take 8 (.take 9 (.take 10 .done))))))))))) .nil .nil) .nil)))))))))

theorem is_spill_Writer_Close (w_1 : PA) (K : Int → Int → Int → World → Prop) (w : World) : WF Tryz.prog CS Tryz.f4 N_spill_Writer_Close (.tup [.leaf (.int .i64), .leaf (.int .i64), .leaf (.int .i64)]) [.leaf (.ptr w_1)] K w = S_spill_Writer_Close w_1 K w := by kernel_rfl
theorem go_spill_Writer_Close (w_1 : PA) (K : Int → Int → Int → World → Prop) (w : World) (h : S_spill_Writer_Close w_1 K w) : callK Tryz.prog 4 [.leaf (.ptr w_1)] w (.tup [.leaf (.int .i64), .leaf (.int .i64), .leaf (.int .i64)]) K := by
  refine WF_sound (n := N_spill_Writer_Close) CS_ok mixed Tryz.func4 ?_
  rw [is_spill_Writer_Close]
  exact h

-- 5 (*winnow/spill.Reader).Count
def S_spill_Reader_Count (r1 : PA) (part2 : Int) (K : Int → Int → World → Prop) (w : World) : Prop :=
  callK Tryz.prog 18 [.leaf (.ptr r1), .leaf (.int .i64 part2)] w (.one (.leaf (.int .i64))) fun n3 w_4 =>
  ifK (n3 != 0)
  (K 0 n3 w_4)
  (dr r1 fun b5 o6 =>
    ld w_4 (.int .i64) b5 (o6 + 2) fun n7 =>
    ld w_4 .sl b5 (o6 + 2 + 1) fun a8 =>
    callK Tryz.prog 19 [.agg [.int .i64 n7, .sl a8], .leaf (.int .i64 part2), .leaf (.str [])] w_4 (.tup [.leaf (.int .i64), .leaf (.int .i64)]) fun n9 n10 w_11 =>
    joinK [.int .i64] (fun k12 =>
      ifK (decide (0 ≤ n9))
      (dr r1 fun b13 o14 =>
        ld w_11 .sl b13 (o14 + 2 + 1) fun a15 =>
        ix a15 5 n9 fun b16 o17 =>
        ld w_11 .sl b16 (o17 + 1) fun a18 =>
        joinK [.int .i64] (fun k19 =>
          loopL [.int .i64, .int .i64] (fun n21 t3922 w_23 again20 =>
            ifK (decide (t3922 < (a18.len : Int)))
            (ix a18 4 t3922 fun b24 o25 =>
              ld w_23 (.int .i64) b24 o25 fun n26 =>
              ld w_23 (.int .i64) b24 (o25 + 1) fun n27 =>
              ld w_23 (.int .i64) b24 (o25 + 2) fun n28 =>
              ld w_23 .str b24 (o25 + 3) fun s29 =>
              al w_23 73 [.int .i64 0, .int .i64 0, .int .i64 0, .str []] fun b30 w_31 =>
              st w_31 b30 0 [.int .i64 n26, .int .i64 n27, .int .i64 n28, .str s29] fun w_32 =>
              ld w_32 (.int .i64) b30 2 fun n33 =>
              again20 (w64 (n21 + n33)) (w64 (t3922 + 1)) w_32)
            (k19 n21 w_23)) [.int .i64 0, .int .i64 0] w_11) fun n34 w_35 =>
        k12 n34 w_35)
      (k12 0 w_11)) fun n36 w_37 =>
    K n36 0 w_37)

def N_spill_Reader_Count : Ann := (.mk none [] [] .done .nil (.mk none [] [] .done .nil (.mk none [] [] .done .nil (.mk none [] [] .done (.mk none [] [] .done .nil (.mk none [] [] .done .nil (.mk (some [.tmp 7 (.leaf (.int .i64))]) [] [] .done (.mk none [] [] .done .nil (.mk (some [.tmp 7 (.leaf (.int .i64))]) [] [] .done (.mk none [.tmp 7 (.leaf (.int .i64)), .tmp 39 (.leaf (.int .i64))] [37, 38] .done .nil .nil) .nil)) .nil))) .nil))))

theorem is_spill_Reader_Count (r1 : PA) (part2 : Int) (K : Int → Int → World → Prop) (w : World) : WF Tryz.prog CS Tryz.f5 N_spill_Reader_Count (.tup [.leaf (.int .i64), .leaf (.int .i64)]) [.leaf (.ptr r1), .leaf (.int .i64 part2)] K w = S_spill_Reader_Count r1 part2 K w := by kernel_rfl
theorem go_spill_Reader_Count (r1 : PA) (part2 : Int) (K : Int → Int → World → Prop) (w : World) (h : S_spill_Reader_Count r1 part2 K w) : callK Tryz.prog 5 [.leaf (.ptr r1), .leaf (.int .i64 part2)] w (.tup [.leaf (.int .i64), .leaf (.int .i64)]) K := by
  refine WF_sound (n := N_spill_Reader_Count) CS_ok mixed Tryz.func5 ?_
  rw [is_spill_Reader_Count]
  exact h

-- 6 (*winnow/spill.Reader).Scan
def S_spill_Reader_Scan (r1 : PA) (part2 : Int) (K : PA → Int → World → Prop) (w : World) : Prop :=
  callK Tryz.prog 18 [.leaf (.ptr r1), .leaf (.int .i64 part2)] w (.one (.leaf (.int .i64))) fun n3 w_4 =>
  ifK (n3 != 0)
  (K none n3 w_4)
  (dr r1 fun b5 o6 =>
    ld w_4 (.int .i64) b5 (o6 + 2) fun n7 =>
    ld w_4 .sl b5 (o6 + 2 + 1) fun a8 =>
    callK Tryz.prog 19 [.agg [.int .i64 n7, .sl a8], .leaf (.int .i64 part2), .leaf (.str [])] w_4 (.tup [.leaf (.int .i64), .leaf (.int .i64)]) fun n9 n10 w_11 =>
    callK Tryz.prog 20 [.leaf (.ptr r1), .leaf (.int .i64 n9), .leaf (.int .i64 0), .leaf (.str [])] w_11 (.one (.leaf (.ptr))) fun p12 w_13 =>
    K p12 0 w_13)

def N_spill_Reader_Scan : Ann := .nil

theorem is_spill_Reader_Scan (r1 : PA) (part2 : Int) (K : PA → Int → World → Prop) (w : World) : WF Tryz.prog CS Tryz.f6 N_spill_Reader_Scan (.tup [.leaf (.ptr), .leaf (.int .i64)]) [.leaf (.ptr r1), .leaf (.int .i64 part2)] K w = S_spill_Reader_Scan r1 part2 K w := by kernel_rfl
theorem go_spill_Reader_Scan (r1 : PA) (part2 : Int) (K : PA → Int → World → Prop) (w : World) (h : S_spill_Reader_Scan r1 part2 K w) : callK Tryz.prog 6 [.leaf (.ptr r1), .leaf (.int .i64 part2)] w (.tup [.leaf (.ptr), .leaf (.int .i64)]) K := by
  refine WF_sound (n := N_spill_Reader_Scan) CS_ok mixed Tryz.func6 ?_
  rw [is_spill_Reader_Scan]
  exact h

-- 7 (*winnow/spill.Reader).Seek
def S_spill_Reader_Seek (r1 : PA) (part2 : Int) (key3 : List UInt8) (K : PA → Int → World → Prop) (w : World) : Prop :=
  callK Tryz.prog 18 [.leaf (.ptr r1), .leaf (.int .i64 part2)] w (.one (.leaf (.int .i64))) fun n4 w_5 =>
  ifK (n4 != 0)
  (K none n4 w_5)
  (dr r1 fun b6 o7 =>
    ld w_5 (.int .i64) b6 (o7 + 2) fun n8 =>
    ld w_5 .sl b6 (o7 + 2 + 1) fun a9 =>
    callK Tryz.prog 19 [.agg [.int .i64 n8, .sl a9], .leaf (.int .i64 part2), .leaf (.str key3)] w_5 (.tup [.leaf (.int .i64), .leaf (.int .i64)]) fun n10 n11 w_12 =>
    callK Tryz.prog 20 [.leaf (.ptr r1), .leaf (.int .i64 n10), .leaf (.int .i64 n11), .leaf (.str key3)] w_12 (.one (.leaf (.ptr))) fun p13 w_14 =>
    K p13 0 w_14)

def N_spill_Reader_Seek : Ann := .nil

theorem is_spill_Reader_Seek (r1 : PA) (part2 : Int) (key3 : List UInt8) (K : PA → Int → World → Prop) (w : World) : WF Tryz.prog CS Tryz.f7 N_spill_Reader_Seek (.tup [.leaf (.ptr), .leaf (.int .i64)]) [.leaf (.ptr r1), .leaf (.int .i64 part2), .leaf (.str key3)] K w = S_spill_Reader_Seek r1 part2 key3 K w := by kernel_rfl
theorem go_spill_Reader_Seek (r1 : PA) (part2 : Int) (key3 : List UInt8) (K : PA → Int → World → Prop) (w : World) (h : S_spill_Reader_Seek r1 part2 key3 K w) : callK Tryz.prog 7 [.leaf (.ptr r1), .leaf (.int .i64 part2), .leaf (.str key3)] w (.tup [.leaf (.ptr), .leaf (.int .i64)]) K := by
  refine WF_sound (n := N_spill_Reader_Seek) CS_ok mixed Tryz.func7 ?_
  rw [is_spill_Reader_Seek]
  exact h

-- 8 (*winnow/spill.Reader).Has
def S_spill_Reader_Has (r1 : PA) (part2 : Int) (key3 : List UInt8) (K : Bool → Int → World → Prop) (w : World) : Prop :=
  callK Tryz.prog 18 [.leaf (.ptr r1), .leaf (.int .i64 part2)] w (.one (.leaf (.int .i64))) fun n4 w_5 =>
  ifK (n4 != 0)
  (K false n4 w_5)
  (dr r1 fun b6 o7 =>
    ld w_5 (.int .i64) b6 (o7 + 2) fun n8 =>
    ld w_5 .sl b6 (o7 + 2 + 1) fun a9 =>
    callK Tryz.prog 19 [.agg [.int .i64 n8, .sl a9], .leaf (.int .i64 part2), .leaf (.str key3)] w_5 (.tup [.leaf (.int .i64), .leaf (.int .i64)]) fun n10 n11 w_12 =>
    joinK [.bool] (fun k13 =>
      ifK (decide (n10 < 0))
      (k13 true w_12)
      (dr r1 fun b14 o15 =>
        ld w_12 .sl b14 (o15 + 2 + 1) fun a16 =>
        ix a16 5 n10 fun b17 o18 =>
        ld w_12 .bool b17 (o18 + 2) fun c19 =>
        ld w_12 (.int .i64) b17 (o18 + 2 + 1) fun n20 =>
        ld w_12 .sl b17 (o18 + 2 + 2) fun a21 =>
        callK Tryz.prog 21 [.agg [.bool c19, .int .i64 n20, .sl a21], .leaf (.str key3)] w_12 (.one (.leaf (.bool))) fun c22 w_23 =>
        k13 (!c22) w_23)) fun t4524 w_25 =>
    ifK t4524
    (K false 0 w_25)
    (callK Tryz.prog 20 [.leaf (.ptr r1), .leaf (.int .i64 n10), .leaf (.int .i64 n11), .leaf (.str key3)] w_25 (.one (.leaf (.ptr))) fun p26 w_27 =>
      callK Tryz.prog 9 [.leaf (.ptr p26)] w_27 (.tup [.agg [.str, .str], .leaf (.bool), .leaf (.int .i64)]) fun s28 s29 c30 n31 w_32 =>
      al w_32 38 [.str [], .str []] fun b33 w_34 =>
      st w_34 b33 0 [.str s28, .str s29] fun w_35 =>
      joinK [.bool, .int .i64] (fun k36 =>
        ifK (n31 == 0)
        (ifK c30
          (ld w_35 .str b33 0 fun s37 =>
            k36 (s37 == key3) n31 w_35)
          (k36 false n31 w_35))
        (k36 false n31 w_35)) fun t638 t739 w_40 =>
      K t638 t739 w_40))

def N_spill_Reader_Has : Ann := (.mk none [] [] .done .nil (.mk none [] [] .done .nil (.mk none [] [] .done .nil (.mk none [] [] .done (.mk none [] [] .done (.mk (some [.tmp 45 (.leaf (.bool))]) [] [0, 2, 9, 10] .done .nil .nil) .nil) (.mk none [] [] .done .nil (.mk none [] [] .done (.mk (some [.tmp 6 (.leaf (.bool)), .tmp 7 (.leaf (.int .i64))]) [] [] .done .nil .nil) .nil))))))

theorem is_spill_Reader_Has (r1 : PA) (part2 : Int) (key3 : List UInt8) (K : Bool → Int → World → Prop) (w : World) : WF Tryz.prog CS Tryz.f8 N_spill_Reader_Has (.tup [.leaf (.bool), .leaf (.int .i64)]) [.leaf (.ptr r1), .leaf (.int .i64 part2), .leaf (.str key3)] K w = S_spill_Reader_Has r1 part2 key3 K w := by kernel_rfl
theorem go_spill_Reader_Has (r1 : PA) (part2 : Int) (key3 : List UInt8) (K : Bool → Int → World → Prop) (w : World) (h : S_spill_Reader_Has r1 part2 key3 K w) : callK Tryz.prog 8 [.leaf (.ptr r1), .leaf (.int .i64 part2), .leaf (.str key3)] w (.tup [.leaf (.bool), .leaf (.int .i64)]) K := by
  refine WF_sound (n := N_spill_Reader_Has) CS_ok mixed Tryz.func8 ?_
  rw [is_spill_Reader_Has]
  exact h

-- 9 (*winnow/spill.Cursor).Next
def S_spill_Cursor_Next (c1 : PA) (K : List UInt8 → List UInt8 → Bool → Int → World → Prop) (w : World) : Prop :=
  al w 38 [.str [], .str []] fun b2 w_3 =>
  ifK c1.isNone
  (st w_3 b2 0 [.str [], .str []] fun w_4 =>
    ld w_4 .str b2 0 fun s5 =>
    ld w_4 .str b2 1 fun s6 =>
    K s5 s6 false 1 w_4)
  (joinK [] (fun k7 =>
      loopL [] (fun w_9 again8 =>
        callK Tryz.prog 22 [.leaf (.ptr c1)] w_9 (.one (.leaf (.bool))) fun c10 w_11 =>
        ifK (!c10)
        (again8 w_11)
        (k7 w_11)) [] w_3) fun w_12 =>
    dr c1 fun b13 o14 =>
    ld w_12 (.int .i64) b13 (o14 + 8) fun n15 =>
    ifK (n15 == 2)
    (st w_12 b2 0 [.str [], .str []] fun w_16 =>
      ld w_16 .str b2 0 fun s17 =>
      ld w_16 .str b2 1 fun s18 =>
      K s17 s18 false 0 w_16)
    (ifK (n15 == 3)
      (st w_12 b2 0 [.str [], .str []] fun w_19 =>
        ld w_19 .str b2 0 fun s20 =>
        ld w_19 .str b2 1 fun s21 =>
        K s20 s21 false 91 w_19)
      (drawK w_12 fun D w_22 =>
        dr c1 fun b23 o24 =>
        ldD D w_22 .ptr b23 (o24 + 4) fun p25 =>
        dr c1 fun b26 o27 =>
        ldD D w_22 (.int .i64) b26 (o27 + 5) fun n28 =>
        callK Tryz.prog 23 [.leaf (.ptr p25), .leaf (.int .i64 n28)] w_22 (.tup [.leaf (.str), .leaf (.str), .leaf (.int .i64)]) fun s29 s30 n31 w_32 =>
        Mod D w_22 w_32 ∧
        dr c1 fun b33 o34 =>
        ld w_32 (.int .i64) b33 (o34 + 5) fun n35 =>
        dr c1 fun b36 o37 =>
        st w_32 b36 (o37 + 5) [.int .i64 (w64 (n35 + 1))] fun w_38 =>
        st w_38 b2 0 [.str s29, .str s30] fun w_39 =>
        ld w_39 .str b2 0 fun s40 =>
        ld w_39 .str b2 1 fun s41 =>
        K s40 s41 true 0 w_39)))

def N_spill_Cursor_Next : Ann := (.mk none [] [] .done .nil (.mk none [] [] .done .nil (.mk none [] [] .done (.mk (some []) [] [0, 2] .done (.mk none [] [0, 2] .done .nil .nil) .nil) (.mk none [] [] .done .nil (.mk none [] [] .done (.mk none [] [] (.take 0 (.take 1 (.take 2 (.take 3 (.take 4 (.take 5 (.take 6 (.take 7 (.eff 8 (.take 9 (.take 10 (.take 11 (.take 12 (.take 13 (.take 14 (.take 15 .done)))))))))))))))) .nil .nil) .nil)))))

theorem is_spill_Cursor_Next (c1 : PA) (K : List UInt8 → List UInt8 → Bool → Int → World → Prop) (w : World) : WF Tryz.prog CS Tryz.f9 N_spill_Cursor_Next (.tup [.agg [.str, .str], .leaf (.bool), .leaf (.int .i64)]) [.leaf (.ptr c1)] K w = S_spill_Cursor_Next c1 K w := by kernel_rfl
theorem go_spill_Cursor_Next (c1 : PA) (K : List UInt8 → List UInt8 → Bool → Int → World → Prop) (w : World) (h : S_spill_Cursor_Next c1 K w) : callK Tryz.prog 9 [.leaf (.ptr c1)] w (.tup [.agg [.str, .str], .leaf (.bool), .leaf (.int .i64)]) K := by
  refine WF_sound (n := N_spill_Cursor_Next) CS_ok mixed Tryz.func9 ?_
  rw [is_spill_Cursor_Next]
  exact h

-- 10 (*winnow/spill.Writer).Add
def S_spill_Writer_Add (w_1 : PA) (r_0_2 : Int) (r_1_3 : List UInt8) (r_2_4 : List UInt8) (K : Int → World → Prop) (w : World) : Prop :=
  al w 23 [.int .i64 r_0_2, .str r_1_3, .str r_2_4] fun b5 w_6 =>
  ifK w_1.isNone
  (K 1 w_6)
  (dr w_1 fun b7 o8 =>
    ld w_6 .bool b7 (o8 + 16) fun c9 =>
    ifK c9
    (K 4 w_6)
    (dr w_1 fun b10 o11 =>
      ld w_6 (.int .i64) b10 (o11 + 15) fun n12 =>
      ifK (n12 != 0)
      (dr w_1 fun b13 o14 =>
        ld w_6 (.int .i64) b13 (o14 + 15) fun n15 =>
        K n15 w_6)
      (joinK [.bool] (fun k16 =>
          ld w_6 .str b5 1 fun s17 =>
          ifK (decide (1024 < (s17.length : Int)))
          (k16 true w_6)
          (ld w_6 .str b5 2 fun s18 =>
            k16 (decide (1024 < (s18.length : Int))) w_6)) fun t2519 w_20 =>
        ifK t2519
        (K 90 w_20)
        (joinK [.bool] (fun k21 =>
            drawK w_20 fun D w_22 =>
            ldD D w_22 (.int .i64) b5 0 fun n23 =>
            ifK (decide (n23 < 0))
            (k21 true w_22)
            (ldD D w_22 (.int .i64) b5 0 fun n24 =>
              dr w_1 fun b25 o26 =>
              ldD D w_22 (.int .i64) b25 (o26 + 5) fun n27 =>
              k21 (decide (n27 ≤ n24)) w_22)) fun t3628 w_29 =>
          ifK t3628
          (K 3 w_29)
          (joinK [.bool] (fun k30 =>
              drawK w_29 fun D w_31 =>
              ldD D w_31 (.int .i64) b5 0 fun n32 =>
              dr w_1 fun b33 o34 =>
              ldD D w_31 (.int .i64) b33 (o34 + 9) fun n35 =>
              ifK (decide (n32 < n35))
              (k30 true w_31)
              (ldD D w_31 (.int .i64) b5 0 fun n36 =>
                dr w_1 fun b37 o38 =>
                ldD D w_31 (.int .i64) b37 (o38 + 9) fun n39 =>
                ifK (n36 == n39)
                (ldD D w_31 .str b5 1 fun s40 =>
                  dr w_1 fun b41 o42 =>
                  ldD D w_31 .str b41 (o42 + 10) fun s43 =>
                  callK Tryz.prog 24 [.leaf (.str s40), .leaf (.str s43)] w_31 (.one (.leaf (.int .i64))) fun n44 w_45 =>
                  Mod D w_31 w_45 ∧
                  k30 (decide (n44 < 0)) w_45)
                (k30 false w_31))) fun t5046 w_47 =>
            ifK t5046
            (K 61 w_47)
            (joinK [.bool] (fun k48 =>
                drawK w_47 fun D w_49 =>
                ldD D w_49 (.int .i64) b5 0 fun n50 =>
                dr w_1 fun b51 o52 =>
                ldD D w_49 (.int .i64) b51 (o52 + 9) fun n53 =>
                ifK (n50 != n53)
                (k48 true w_49)
                (dr w_1 fun b54 o55 =>
                  ldD D w_49 .ptr b54 (o55 + 7) fun p56 =>
                  callK Tryz.prog 25 [.leaf (.ptr p56)] w_49 (.one (.leaf (.int .i64))) fun n57 w_58 =>
                  Mod D w_49 w_58 ∧
                  ifK (n57 == 0)
                  (k48 true w_58)
                  (dr w_1 fun b59 o60 =>
                    ldD D w_49 .ptr b59 (o60 + 7) fun p61 =>
                    ldD D w_49 .str b5 1 fun s62 =>
                    ldD D w_49 .str b5 2 fun s63 =>
                    callK Tryz.prog 26 [.leaf (.ptr p61), .leaf (.str s62), .leaf (.str s63)] w_58 (.one (.leaf (.int .i64))) fun n64 w_65 =>
                    Mod D w_49 w_65 ∧
                    k48 (n64 != 0) w_65))) fun t10366 w_67 =>
              joinK [] (fun k68 =>
                ifK t10366
                (callK Tryz.prog 14 [.leaf (.ptr w_1)] w_67 (.one (.leaf (.int .i64))) fun n69 w_70 =>
                  ifK (n69 != 0)
                  (K n69 w_70)
                  (dr w_1 fun b71 o72 =>
                    ld w_70 (.int .i64) b71 (o72 + 12) fun n73 =>
                    ifK (n73 == 262144)
                    (dr w_1 fun b74 o75 =>
                      st w_70 b74 (o75 + 15) [.int .i64 62] fun w_76 =>
                      K 62 w_76)
                    (drawK w_70 fun D w_77 =>
                      ldD D w_77 (.int .i64) b5 0 fun n78 =>
                      dr w_1 fun b79 o80 =>
                      ldD D w_77 (.int .i64) b79 (o80 + 9) fun n81 =>
                      joinK [] (fun k82 =>
                        ifK (n78 != n81)
                        (callK Tryz.prog 15 [.leaf (.ptr w_1)] w_77 (.tup []) fun w_83 =>
                          k82 w_83)
                        (k82 w_77)) fun w_84 =>
                      drawK w_84 fun D w_85 =>
                      dr w_1 fun b86 o87 =>
                      ldD D w_85 .ptr b86 (o87 + 7) fun p88 =>
                      ldD D w_85 .str b5 1 fun s89 =>
                      ldD D w_85 .str b5 2 fun s90 =>
                      callK Tryz.prog 26 [.leaf (.ptr p88), .leaf (.str s89), .leaf (.str s90)] w_85 (.one (.leaf (.int .i64))) fun n91 w_92 =>
                      Mod D w_85 w_92 ∧
                      ld w_92 .str b5 1 fun s93 =>
                      dr w_1 fun b94 o95 =>
                      st w_92 b94 (o95 + 8) [.str s93] fun w_96 =>
                      k68 w_96)))
                (k68 w_67)) fun w_97 =>
              dr w_1 fun b98 o99 =>
              ld w_97 .sl b98 (o99 + 11) fun a100 =>
              joinK [.bool] (fun k101 =>
                drawK w_97 fun D w_102 =>
                ifK ((a100.len : Int) == 0)
                (k101 true w_102)
                (ifK (decide ((a100.len : Int) ≤ 65536))
                  (dr w_1 fun b103 o104 =>
                    ldD D w_102 (.int .i64) b103 (o104 + 2 + 2) fun n105 =>
                    ifK (decide (0 < n105))
                    (dr w_1 fun b106 o107 =>
                      ldD D w_102 .sl b106 (o107 + 11) fun a108 =>
                      ix a108 1 (w64 ((a100.len : Int) - 1)) fun b109 o110 =>
                      ldD D w_102 .str b109 o110 fun s111 =>
                      ldD D w_102 .str b5 1 fun s112 =>
                      k101 (!(s111 == s112)) w_102)
                    (k101 false w_102))
                  (k101 false w_102))) fun t171113 w_114 =>
              joinK [] (fun k115 =>
                ifK t171113
                (drawK w_114 fun D w_116 =>
                  dr w_1 fun b117 o118 =>
                  ldD D w_116 .sl b117 (o118 + 11) fun a119 =>
                  ldD D w_116 .str b5 1 fun s120 =>
                  al w_116 9 [.str s120] fun b121 w_122 =>
                  Mod D w_116 w_122 ∧
                  ap w_122 9 1 16 [.str []] a119 (⟨some (b121, 0), 1, 1⟩) fun a123 w_124 =>
                  Mod D w_116 w_124 ∧
                  dr w_1 fun b125 o126 =>
                  st w_124 b125 (o126 + 11) [.sl a123] fun w_127 =>
                  k115 w_127)
                (k115 w_114)) fun w_128 =>
              drawK w_128 fun D w_129 =>
              ldD D w_129 (.int .i64) b5 0 fun n130 =>
              ldD D w_129 .str b5 1 fun s131 =>
              dr w_1 fun b132 o133 =>
              st w_129 b132 (o133 + 9) [.int .i64 n130] fun w_134 =>
              Mod D w_129 w_134 ∧
              dr w_1 fun b135 o136 =>
              st w_134 b135 (o136 + 10) [.str s131] fun w_137 =>
              dr w_1 fun b138 o139 =>
              ld w_137 (.int .i64) b138 (o139 + 14) fun n140 =>
              dr w_1 fun b141 o142 =>
              st w_137 b141 (o142 + 14) [.int .i64 (w64 (n140 + 1))] fun w_143 =>
              K 0 w_143))))))

def N_spill_Writer_Add : Ann := (.mk none [] [] .done .nil (.mk none [] [] .done (.mk none [] [] .done (.mk none [] [] .done .nil (.mk none [] [] .done .nil (.mk none [] [] .done .nil (.mk none [] [] .done .nil (.mk none [] [] .done .nil (.mk none [] [] .done .nil (.mk none [] [] .done (.mk (some [.tmp 25 (.leaf (.bool))]) [] [0, 3] .done .nil .nil) (.mk none [] [] .done .nil (.mk none [] [] .done (.mk (some [.tmp 36 (.leaf (.bool))]) [] [0, 3] (.take 0 (.take 1 (.take 2 (.take 3 (.split 3 (.take 4 (.take 5 (.take 6 (.take 7 (.take 8 (.take 9 (.take 10 (.take 11 (.take 12 (.take 13 .done)))))))))) (.take 4 (.take 5 (.take 6 (.take 7 (.take 8 (.take 9 (.take 10 (.take 11 (.take 12 (.take 13 .done))))))))))))))) .nil .nil) (.mk none [] [] .done .nil (.mk none [] [] .done (.mk (some [.tmp 50 (.leaf (.bool))]) [] [0, 3] (.take 0 (.take 1 (.take 2 (.take 3 (.take 4 (.take 5 (.take 6 (.take 7 (.split 7 (.take 8 (.take 9 (.take 10 (.take 11 (.take 12 (.take 13 (.take 14 (.take 15 (.take 16 (.take 17 (.take 18 (.take 19 (.take 20 (.take 21 (.take 22 (.take 23 (.take 24 (.take 25 (.take 26 .done))))))))))))))))))) (.take 8 (.take 9 (.take 10 (.take 11 (.take 12 (.take 13 (.take 14 (.take 15 (.split 15 (.take 16 (.take 17 (.take 18 (.take 19 (.take 20 (.take 21 (.eff 22 (.take 23 (.take 24 (.take 25 (.take 26 .done))))))))))) (.take 16 (.take 17 (.take 18 (.take 19 (.take 20 (.take 21 (.take 22 (.take 23 (.take 24 (.take 25 (.take 26 .done))))))))))))))))))))))))))))) .nil .nil) .nil))))))))))) .nil) (.mk none [] [] .done (.mk none [] [] .done (.mk (some [.tmp 103 (.leaf (.bool))]) [] [0, 3] (.take 0 (.take 1 (.take 2 (.take 3 (.take 4 (.take 5 (.take 6 (.take 7 (.split 7 (.take 8 (.take 9 (.take 10 (.take 11 (.take 12 (.take 13 (.take 14 (.take 15 (.take 16 (.take 17 (.take 18 (.take 19 (.take 20 (.take 21 (.take 22 (.take 23 (.take 24 (.take 25 (.take 26 .done))))))))))))))))))) (.take 8 (.take 9 (.take 10 (.take 11 (.eff 12 (.take 13 (.take 14 (.take 15 (.split 15 (.take 16 (.take 17 (.take 18 (.take 19 (.take 20 (.take 21 (.take 22 (.take 23 (.take 24 (.take 25 (.take 26 .done))))))))))) (.take 16 (.take 17 (.take 18 (.take 19 (.take 20 (.take 21 (.take 22 (.take 23 (.eff 24 (.take 25 (.take 26 .done))))))))))))))))))))))))))))) .nil .nil) (.mk (some []) [] [0, 3] .done (.mk none [] [] .done .nil (.mk none [] [] .done .nil (.mk none [] [] .done (.mk none [] [] .done (.mk none [] [] (.take 0 (.take 1 (.take 2 (.take 3 (.take 4 (.take 5 (.take 6 .done))))))) .nil .nil) (.mk (some []) [] [0, 3] .done .nil .nil)) (.mk none [] [] .done (.mk none [] [] (.take 0 (.take 1 (.take 2 (.take 3 (.take 4 (.take 5 (.take 6 (.take 7 (.eff 8 .done))))))))) .nil .nil) .nil)))) .nil)) (.mk none [] [] .done (.mk none [] [] .done .nil (.mk none [] [] .done (.mk (some [.tmp 171 (.leaf (.bool))]) [] [0, 3] (.take 0 (.take 1 (.take 2 (.split 2 (.take 3 (.take 4 (.take 5 (.take 6 (.take 7 (.take 8 (.take 9 (.take 10 (.take 11 (.take 12 (.take 13 (.take 14 (.take 15 (.take 16 (.take 17 (.take 18 (.take 19 (.take 20 (.take 21 (.take 22 (.take 23 (.take 24 (.take 25 (.take 26 .done)))))))))))))))))))))))) (.take 3 (.take 4 (.take 5 (.split 5 (.take 6 (.take 7 (.take 8 (.take 9 (.take 10 (.take 11 (.take 12 (.take 13 (.split 13 (.take 14 (.take 15 (.take 16 (.take 17 (.take 18 (.take 19 (.take 20 (.take 21 (.take 22 (.take 23 (.take 24 (.take 25 (.take 26 .done))))))))))))) (.take 14 (.take 15 (.take 16 (.take 17 (.take 18 (.take 19 (.take 20 (.take 21 (.take 22 (.take 23 (.take 24 (.take 25 (.take 26 .done)))))))))))))))))))))) (.take 6 (.take 7 (.take 8 (.take 9 (.take 10 (.take 11 (.take 12 (.take 13 (.take 14 (.take 15 (.take 16 (.take 17 (.take 18 (.take 19 (.take 20 (.take 21 (.take 22 (.take 23 (.take 24 (.take 25 (.take 26 .done))))))))))))))))))))))))))))) .nil .nil) (.mk (some []) [] [0, 3] .done (.mk none [] [] (.take 0 (.take 1 (.take 2 (.take 3 (.take 4 (.take 5 (.take 6 (.eff 7 (.eff 8 (.take 9 (.take 10 (.last 11)))))))))))) .nil .nil) .nil))) (.mk none [] [] .done (.mk none [] [] (.take 0 (.take 1 (.take 2 (.take 3 (.take 4 (.take 5 (.take 6 (.take 7 (.eff 8 (.take 9 (.take 10 (.last 11)))))))))))) .nil .nil) .nil)))))

theorem is_spill_Writer_Add (w_1 : PA) (r_0_2 : Int) (r_1_3 : List UInt8) (r_2_4 : List UInt8) (K : Int → World → Prop) (w : World) : WF Tryz.prog CS Tryz.f10 N_spill_Writer_Add (.one (.leaf (.int .i64))) [.leaf (.ptr w_1), .agg [.int .i64 r_0_2, .str r_1_3, .str r_2_4]] K w = S_spill_Writer_Add w_1 r_0_2 r_1_3 r_2_4 K w := by kernel_rfl
theorem go_spill_Writer_Add (w_1 : PA) (r_0_2 : Int) (r_1_3 : List UInt8) (r_2_4 : List UInt8) (K : Int → World → Prop) (w : World) (h : S_spill_Writer_Add w_1 r_0_2 r_1_3 r_2_4 K w) : callK Tryz.prog 10 [.leaf (.ptr w_1), .agg [.int .i64 r_0_2, .str r_1_3, .str r_2_4]] w (.one (.leaf (.int .i64))) K := by
  refine WF_sound (n := N_spill_Writer_Add) CS_ok mixed Tryz.func10 ?_
  rw [is_spill_Writer_Add]
  exact h

-- 11 (*winnow/spill.Reader).Parts
def S_spill_Reader_Parts (r1 : PA) (K : Int → World → Prop) (w : World) : Prop :=
  ifK r1.isNone
  (K 0 w)
  (dr r1 fun b2 o3 =>
    ld w (.int .i64) b2 (o3 + 2) fun n4 =>
    K n4 w)

def N_spill_Reader_Parts : Ann := .nil

theorem is_spill_Reader_Parts (r1 : PA) (K : Int → World → Prop) (w : World) : WF Tryz.prog CS Tryz.f11 N_spill_Reader_Parts (.one (.leaf (.int .i64))) [.leaf (.ptr r1)] K w = S_spill_Reader_Parts r1 K w := by kernel_rfl
theorem go_spill_Reader_Parts (r1 : PA) (K : Int → World → Prop) (w : World) (h : S_spill_Reader_Parts r1 K w) : callK Tryz.prog 11 [.leaf (.ptr r1)] w (.one (.leaf (.int .i64))) K := by
  refine WF_sound (n := N_spill_Reader_Parts) CS_ok mixed Tryz.func11 ?_
  rw [is_spill_Reader_Parts]
  exact h

-- 12 winnow/winnowlaw9.sameFoot
def S_winnowlaw9_sameFoot (a_0_1 : Int) (a_1_2 : Sl) (b_0_3 : Int) (b_1_4 : Sl) (K : Bool → World → Prop) (w : World) : Prop :=
  al w 46 [.int .i64 a_0_1, .sl a_1_2] fun b5 w_6 =>
  al w_6 46 [.int .i64 b_0_3, .sl b_1_4] fun b7 w_8 =>
  joinK [.bool] (fun k9 =>
    ld w_8 (.int .i64) b5 0 fun n10 =>
    ld w_8 (.int .i64) b7 0 fun n11 =>
    ifK (n10 != n11)
    (k9 true w_8)
    (ld w_8 .sl b5 1 fun a12 =>
      ld w_8 .sl b7 1 fun a13 =>
      k9 ((a12.len : Int) != (a13.len : Int)) w_8)) fun t2114 w_15 =>
  ifK t2114
  (K false w_15)
  (joinK [] (fun k16 =>
      loopL [.int .i64] (fun i18 w_19 again17 =>
        ld w_19 .sl b5 1 fun a20 =>
        ifK (decide (i18 < (a20.len : Int)))
        (ld w_19 .sl b5 1 fun a21 =>
          ix a21 5 i18 fun b22 o23 =>
          ld w_19 (.int .i64) b22 o23 fun n24 =>
          ld w_19 .sl b22 (o23 + 1) fun a25 =>
          ld w_19 .bool b22 (o23 + 2) fun c26 =>
          ld w_19 (.int .i64) b22 (o23 + 3) fun n27 =>
          ld w_19 .sl b22 (o23 + 4) fun a28 =>
          al w_19 71 [.int .i64 0, .sl (⟨none, 0, 0⟩), .lit false, .int .i64 0, .sl (⟨none, 0, 0⟩)] fun b29 w_30 =>
          st w_30 b29 0 [.int .i64 n24, .sl a25, .bool c26, .int .i64 n27, .sl a28] fun w_31 =>
          ld w_31 .sl b7 1 fun a32 =>
          ix a32 5 i18 fun b33 o34 =>
          ld w_31 (.int .i64) b33 o34 fun n35 =>
          ld w_31 .sl b33 (o34 + 1) fun a36 =>
          ld w_31 .bool b33 (o34 + 2) fun c37 =>
          ld w_31 (.int .i64) b33 (o34 + 3) fun n38 =>
          ld w_31 .sl b33 (o34 + 4) fun a39 =>
          al w_31 71 [.int .i64 0, .sl (⟨none, 0, 0⟩), .lit false, .int .i64 0, .sl (⟨none, 0, 0⟩)] fun b40 w_41 =>
          st w_41 b40 0 [.int .i64 n35, .sl a36, .bool c37, .int .i64 n38, .sl a39] fun w_42 =>
          joinK [.bool] (fun k43 =>
            ld w_42 (.int .i64) b29 0 fun n44 =>
            ld w_42 (.int .i64) b40 0 fun n45 =>
            ifK (n44 != n45)
            (k43 true w_42)
            (ld w_42 .sl b29 1 fun a46 =>
              ld w_42 .sl b40 1 fun a47 =>
              callK Tryz.prog 27 [.leaf (.sl a46), .leaf (.sl a47)] w_42 (.one (.leaf (.bool))) fun c48 w_49 =>
              ifK (!c48)
              (k43 true w_49)
              (ld w_49 .bool b29 2 fun c50 =>
                ld w_49 .bool b40 2 fun c51 =>
                opF Tryz.prog (vS (do eqGuard .neq 4 (.tmp 55) (.tmp 58) (LV.toV (.bool c50)) (LV.toV (.bool c51)); binOp .neq 4 (LV.toV (.bool c50)) (LV.toV (.bool c51)))) w_49 (.one (.leaf (.bool))) fun c53 w_52 =>
                ifK c53
                (k43 true w_52)
                (ld w_52 (.int .i64) b29 3 fun n54 =>
                  ld w_52 (.int .i64) b40 3 fun n55 =>
                  ifK (n54 != n55)
                  (k43 true w_52)
                  (ld w_52 .sl b29 4 fun a56 =>
                    ld w_52 .sl b40 4 fun a57 =>
                    callK Tryz.prog 28 [.leaf (.sl a56), .leaf (.sl a57)] w_52 (.one (.leaf (.bool))) fun c58 w_59 =>
                    k43 (!c58) w_59))))) fun t7960 w_61 =>
          ifK t7960
          (K false w_61)
          (again17 (w64 (i18 + 1)) w_61))
        (k16 w_19)) [.int .i64 0] w_15) fun w_62 =>
    K true w_62)

def N_winnowlaw9_sameFoot : Ann := (.mk none [] [] .done .nil (.mk none [] [] .done (.mk none [] [] .done (.mk (some [.tmp 21 (.leaf (.bool))]) [] [2, 3] .done .nil .nil) .nil) (.mk none [] [] .done (.mk none [] [] .done .nil (.mk (some []) [] [] .done (.mk none [.tmp 5 (.leaf (.int .i64))] [2, 3] .done (.mk none [] [] .done .nil (.mk none [] [] .done (.mk none [] [] .done (.mk none [] [] .done .nil (.mk none [] [] .done .nil (.mk none [] [] .done (.mk (some [.tmp 79 (.leaf (.bool))]) [] [2, 3, 5] .done .nil .nil) .nil))) .nil) .nil)) .nil) .nil)) .nil)))

theorem is_winnowlaw9_sameFoot (a_0_1 : Int) (a_1_2 : Sl) (b_0_3 : Int) (b_1_4 : Sl) (K : Bool → World → Prop) (w : World) : WF Tryz.prog CS Tryz.f12 N_winnowlaw9_sameFoot (.one (.leaf (.bool))) [.agg [.int .i64 a_0_1, .sl a_1_2], .agg [.int .i64 b_0_3, .sl b_1_4]] K w = S_winnowlaw9_sameFoot a_0_1 a_1_2 b_0_3 b_1_4 K w := by kernel_rfl
theorem go_winnowlaw9_sameFoot (a_0_1 : Int) (a_1_2 : Sl) (b_0_3 : Int) (b_1_4 : Sl) (K : Bool → World → Prop) (w : World) (h : S_winnowlaw9_sameFoot a_0_1 a_1_2 b_0_3 b_1_4 K w) : callK Tryz.prog 12 [.agg [.int .i64 a_0_1, .sl a_1_2], .agg [.int .i64 b_0_3, .sl b_1_4]] w (.one (.leaf (.bool))) K := by
  refine WF_sound (n := N_winnowlaw9_sameFoot) CS_ok mixed Tryz.func12 ?_
  rw [is_winnowlaw9_sameFoot]
  exact h

-- 13 (*winnow/spill.Reader).Foot
def S_spill_Reader_Foot (r1 : PA) (K : Int → Sl → World → Prop) (w : World) : Prop :=
  al w 46 [.int .i64 0, .sl (⟨none, 0, 0⟩)] fun b2 w_3 =>
  ifK r1.isNone
  (st w_3 b2 0 [.int .i64 0, .sl (⟨none, 0, 0⟩)] fun w_4 =>
    ld w_4 (.int .i64) b2 0 fun n5 =>
    ld w_4 .sl b2 1 fun a6 =>
    K n5 a6 w_4)
  (dr r1 fun b7 o8 =>
    ld w_3 (.int .i64) b7 (o8 + 2) fun n9 =>
    al w_3 46 [.int .i64 0, .sl (⟨none, 0, 0⟩)] fun b10 w_11 =>
    st w_11 b10 0 [.int .i64 n9, .sl (⟨none, 0, 0⟩)] fun w_12 =>
    dr r1 fun b13 o14 =>
    ld w_12 .sl b13 (o14 + 2 + 1) fun a15 =>
    joinK [] (fun k16 =>
      loopL [.int .i64] (fun t2118 w_19 again17 =>
        ifK (decide (t2118 < (a15.len : Int)))
        (ix a15 5 t2118 fun b20 o21 =>
          ld w_19 (.int .i64) b20 o21 fun n22 =>
          ld w_19 .sl b20 (o21 + 1) fun a23 =>
          ld w_19 .bool b20 (o21 + 2) fun c24 =>
          ld w_19 (.int .i64) b20 (o21 + 3) fun n25 =>
          ld w_19 .sl b20 (o21 + 4) fun a26 =>
          al w_19 71 [.int .i64 0, .sl (⟨none, 0, 0⟩), .lit false, .int .i64 0, .sl (⟨none, 0, 0⟩)] fun b27 w_28 =>
          st w_28 b27 0 [.int .i64 n22, .sl a23, .bool c24, .int .i64 n25, .sl a26] fun w_29 =>
          al w_29 73 [] fun b30 w_31 =>
          ld w_31 .sl b27 1 fun a32 =>
          ap w_31 73 4 40 [.int .i64 0, .int .i64 0, .int .i64 0, .str []] (⟨some (b30, 0), 0, 0⟩) a32 fun a33 w_34 =>
          st w_34 b27 1 [.sl a33] fun w_35 =>
          al w_35 5 [] fun b36 w_37 =>
          ld w_37 .sl b27 4 fun a38 =>
          ap w_37 5 1 1 [.int .u8 0] (⟨some (b36, 0), 0, 0⟩) a38 fun a39 w_40 =>
          st w_40 b27 4 [.sl a39] fun w_41 =>
          ld w_41 .sl b10 1 fun a42 =>
          ld w_41 (.int .i64) b27 0 fun n43 =>
          ld w_41 .sl b27 1 fun a44 =>
          ld w_41 .bool b27 2 fun c45 =>
          ld w_41 (.int .i64) b27 3 fun n46 =>
          ld w_41 .sl b27 4 fun a47 =>
          al w_41 71 [.int .i64 n43, .sl a44, .bool c45, .int .i64 n46, .sl a47] fun b48 w_49 =>
          ap w_49 71 5 72 [.int .i64 0, .sl (⟨none, 0, 0⟩), .lit false, .int .i64 0, .sl (⟨none, 0, 0⟩)] a42 (⟨some (b48, 0), 1, 1⟩) fun a50 w_51 =>
          st w_51 b10 1 [.sl a50] fun w_52 =>
          again17 (w64 (t2118 + 1)) w_52)
        (k16 w_19)) [.int .i64 0] w_12) fun w_53 =>
    ld w_53 (.int .i64) b10 0 fun n54 =>
    ld w_53 .sl b10 1 fun a55 =>
    st w_53 b2 0 [.int .i64 n54, .sl a55] fun w_56 =>
    ld w_56 (.int .i64) b2 0 fun n57 =>
    ld w_56 .sl b2 1 fun a58 =>
    K n57 a58 w_56)

def N_spill_Reader_Foot : Ann := (.mk none [] [] .done .nil (.mk none [] [] .done .nil (.mk none [] [] .done .nil (.mk none [] [] .done (.mk none [] [] .done .nil (.mk (some []) [] [2, 3] .done (.mk none [.tmp 21 (.leaf (.int .i64))] [2, 3, 19, 20] .done .nil .nil) .nil)) .nil))))

theorem is_spill_Reader_Foot (r1 : PA) (K : Int → Sl → World → Prop) (w : World) : WF Tryz.prog CS Tryz.f13 N_spill_Reader_Foot (.one (.agg [.int .i64, .sl])) [.leaf (.ptr r1)] K w = S_spill_Reader_Foot r1 K w := by kernel_rfl
theorem go_spill_Reader_Foot (r1 : PA) (K : Int → Sl → World → Prop) (w : World) (h : S_spill_Reader_Foot r1 K w) : callK Tryz.prog 13 [.leaf (.ptr r1)] w (.one (.agg [.int .i64, .sl])) K := by
  refine WF_sound (n := N_spill_Reader_Foot) CS_ok mixed Tryz.func13 ?_
  rw [is_spill_Reader_Foot]
  exact h

-- 18 (*winnow/spill.Reader).refusal
def S_spill_Reader_refusal (r1 : PA) (part2 : Int) (K : Int → World → Prop) (w : World) : Prop :=
  ifK r1.isNone
  (K 1 w)
  (joinK [.bool] (fun k3 =>
      ifK (decide (part2 < 0))
      (k3 true w)
      (dr r1 fun b4 o5 =>
        ld w (.int .i64) b4 (o5 + 2) fun n6 =>
        k3 (decide (n6 ≤ part2)) w)) fun t87 w_8 =>
    ifK t87
    (K 3 w_8)
    (K 0 w_8))

def N_spill_Reader_refusal : Ann := (.mk none [] [] .done .nil (.mk none [] [] .done (.mk none [] [] .done (.mk none [] [] .done .nil (.mk none [] [] .done .nil (.mk none [] [] .done (.mk (some [.tmp 8 (.leaf (.bool))]) [] [] .done .nil .nil) .nil))) .nil) .nil))

theorem is_spill_Reader_refusal (r1 : PA) (part2 : Int) (K : Int → World → Prop) (w : World) : WF Tryz.prog CS Tryz.f18 N_spill_Reader_refusal (.one (.leaf (.int .i64))) [.leaf (.ptr r1), .leaf (.int .i64 part2)] K w = S_spill_Reader_refusal r1 part2 K w := by kernel_rfl
theorem go_spill_Reader_refusal (r1 : PA) (part2 : Int) (K : Int → World → Prop) (w : World) (h : S_spill_Reader_refusal r1 part2 K w) : callK Tryz.prog 18 [.leaf (.ptr r1), .leaf (.int .i64 part2)] w (.one (.leaf (.int .i64))) K := by
  refine WF_sound (n := N_spill_Reader_refusal) CS_ok mixed Tryz.func18 ?_
  rw [is_spill_Reader_refusal]
  exact h


end Go.Proofs.YtjefbjfifjjpmabGreat
