/- Readings: CommitNone. -/
import Derived.Test.YtjefbjfifjjpmaaGreatDoorS0
namespace Go.Proofs.YtjefbjfifjjpmaaGreatDoor
open Go.Vw
-- 3 winnow/winnowlaw20.CommitNone
def S_winnowlaw20_CommitNone (out1 : List UInt8) (parts2 : Sl) (K : Bool → World → Prop) (w : World) : Prop :=
  callK Tryz.prog 4 [.leaf (.ptr none), .leaf (.str out1)] w (.tup [.leaf (.sl), .leaf (.int .i64)]) fun a3 n4 w_5 =>
  joinK [.bool] (fun k6 =>
    callK Tryz.prog 5 [.leaf (.ptr none), .leaf (.str out1), .leaf (.sl parts2)] w_5 (.one (.leaf (.int .i64))) fun n7 w_8 =>
    ifK (n7 == 1)
    (ifK (n4 == 1)
      (ifK ((a3.len : Int) == 0)
        (callK Tryz.prog 6 [.leaf (.ptr none), .leaf (.str out1)] w_8 (.one (.leaf (.int .i64))) fun n9 w_10 =>
          k6 (n9 == 0) w_10)
        (k6 false w_8))
      (k6 false w_8))
    (k6 false w_8)) fun t411 w_12 =>
  K t411 w_12

def N_winnowlaw20_CommitNone : Ann := (.mk none [] [] .done .nil (.mk none [] [] .done .nil (.mk none [] [] .done (.mk (some [.tmp 4 (.leaf (.bool))]) [] [] .done .nil .nil) .nil)))

theorem is_winnowlaw20_CommitNone (out1 : List UInt8) (parts2 : Sl) (K : Bool → World → Prop) (w : World) : WF Tryz.prog CS Tryz.f3 N_winnowlaw20_CommitNone (.one (.leaf (.bool))) [.leaf (.str out1), .leaf (.sl parts2)] K w = S_winnowlaw20_CommitNone out1 parts2 K w := by kernel_rfl
theorem go_winnowlaw20_CommitNone (out1 : List UInt8) (parts2 : Sl) (K : Bool → World → Prop) (w : World) (h : S_winnowlaw20_CommitNone out1 parts2 K w) : callK Tryz.prog 3 [.leaf (.str out1), .leaf (.sl parts2)] w (.one (.leaf (.bool))) K := by
  refine WF_sound (n := N_winnowlaw20_CommitNone) CS_ok mixed Tryz.func3 ?_
  rw [is_winnowlaw20_CommitNone]
  exact h

-- 4 winnow/commit.Read
def S_commit_Read (s1 : PA) (out2 : List UInt8) (K : Sl → Int → World → Prop) (w : World) : Prop :=
  al w 30 [.ptr s1] fun b3 w_4 =>
  al w_4 9 [.str out2] fun b5 w_6 =>
  ld w_6 .ptr b3 0 fun p7 =>
  ifK p7.isNone
  (K (⟨none, 0, 0⟩) 1 w_6)
  (ld w_6 .str b5 0 fun s8 =>
    callK Tryz.prog 7 [.leaf (.str s8)] w_6 (.one (.leaf (.int .i64))) fun n9 w_10 =>
    ifK (n9 != 0)
    (K (⟨none, 0, 0⟩) n9 w_10)
    (ld w_10 .ptr b3 0 fun p11 =>
      ld w_10 .str b5 0 fun s12 =>
      callK Tryz.prog 8 [.leaf (.ptr p11), .leaf (.str s12)] w_10 (.tup [.leaf (.sl), .leaf (.int .i64)]) fun a13 n14 w_15 =>
      ifK (n14 != 0)
      (K (⟨none, 0, 0⟩) n14 w_15)
      (callK Tryz.prog 9 [.leaf (.sl a13)] w_15 (.tup [.leaf (.sl), .leaf (.bool)]) fun a16 c17 w_18 =>
        ifK (!c17)
        (K (⟨none, 0, 0⟩) 200 w_18)
        (al w_18 23 [.sl (⟨none, 0, 0⟩)] fun b19 w_20 =>
          joinK [] (fun k21 =>
            loopL [.int .i64] (fun t4123 w_24 again22 =>
              ifK (decide (t4123 < (a16.len : Int)))
              (ix a16 4 t4123 fun b25 o26 =>
                ld w_24 (.int .i64) b25 o26 fun n27 =>
                ld w_24 (.int .i64) b25 (o26 + 1) fun n28 =>
                ld w_24 (.int .i64) b25 (o26 + 2) fun n29 =>
                ld w_24 (.int .u32) b25 (o26 + 3) fun n30 =>
                al w_24 40 [.int .i64 0, .int .i64 0, .int .i64 0, .int .u32 0] fun b31 w_32 =>
                st w_32 b31 0 [.int .i64 n27, .int .i64 n28, .int .i64 n29, .int .u32 n30] fun w_33 =>
                ld w_33 (.int .i64) b31 0 fun n34 =>
                ld w_33 (.int .i64) b31 1 fun n35 =>
                ld w_33 (.int .i64) b31 2 fun n36 =>
                ld w_33 (.int .u32) b31 3 fun n37 =>
                callV Tryz.prog (.func (.func 10) #[] #[(LV.toV (.ptr (some (b3, 0)))), (LV.toV (.ptr (some (b5, 0)))), (LV.toV (.ptr (some (b19, 0))))]) [.leaf (.int .i64 t4123), .agg [.int .i64 n34, .int .i64 n35, .int .i64 n36, .int .u32 n37]] w_33 (.one (.leaf (.bool))) fun c38 w_39 =>
                ifK (!c38)
                (K (⟨none, 0, 0⟩) 201 w_39)
                (again22 (w64 (t4123 + 1)) w_39))
              (k21 w_24)) [.int .i64 0] w_20) fun w_40 =>
          ld w_40 .sl b19 0 fun a41 =>
          K a41 0 w_40))))

def N_commit_Read : Ann := (.mk none [] [] .done .nil (.mk none [] [] .done .nil (.mk none [] [] .done .nil (.mk none [] [] .done .nil (.mk none [] [] .done .nil (.mk none [] [] .done .nil (.mk none [] [] .done .nil (.mk none [] [] .done .nil (.mk none [] [] .done .nil (.mk none [] [] .done (.mk none [] [] .done .nil (.mk (some []) [] [11] .done (.mk none [.tmp 41 (.leaf (.int .i64))] [11, 12, 39, 40] .done .nil .nil) .nil)) .nil))))))))))

theorem is_commit_Read (s1 : PA) (out2 : List UInt8) (K : Sl → Int → World → Prop) (w : World) : WF Tryz.prog CS Tryz.f4 N_commit_Read (.tup [.leaf (.sl), .leaf (.int .i64)]) [.leaf (.ptr s1), .leaf (.str out2)] K w = S_commit_Read s1 out2 K w := by kernel_rfl
theorem go_commit_Read (s1 : PA) (out2 : List UInt8) (K : Sl → Int → World → Prop) (w : World) (h : S_commit_Read s1 out2 K w) : callK Tryz.prog 4 [.leaf (.ptr s1), .leaf (.str out2)] w (.tup [.leaf (.sl), .leaf (.int .i64)]) K := by
  refine WF_sound (n := N_commit_Read) CS_ok mixed Tryz.func4 ?_
  rw [is_commit_Read]
  exact h

-- 5 winnow/commit.Commit
def S_commit_Commit (s1 : PA) (out2 : List UInt8) (parts3 : Sl) (K : Int → World → Prop) (w : World) : Prop :=
  ifK s1.isNone
  (K 1 w)
  (callK Tryz.prog 7 [.leaf (.str out2)] w (.one (.leaf (.int .i64))) fun n4 w_5 =>
    ifK (n4 != 0)
    (K n4 w_5)
    (joinK [.bool] (fun k6 =>
        ifK (decide ((parts3.len : Int) < 1))
        (k6 true w_5)
        (k6 (decide (65535 < (parts3.len : Int))) w_5)) fun t297 w_8 =>
      ifK t297
      (K 3 w_8)
      (callK Tryz.prog 14 [.leaf (.ptr s1), .leaf (.str out2)] w_8 (.one (.leaf (.int .i64))) fun n9 w_10 =>
        ifK (n9 != 0)
        (K 51 w_10)
        (joinK [.sl] (fun k11 =>
            loopL [.sl, .int .i64] (fun l13 t3614 w_15 again12 =>
              ifK (decide (t3614 < (parts3.len : Int)))
              (ix parts3 6 t3614 fun b16 o17 =>
                ld w_15 (.int .i64) b16 o17 fun n18 =>
                ld w_15 (.int .i64) b16 (o17 + 1) fun n19 =>
                ld w_15 .str b16 (o17 + 2) fun s20 =>
                ld w_15 (.int .i64) b16 (o17 + 3) fun n21 =>
                ld w_15 (.int .i64) b16 (o17 + 4) fun n22 =>
                ld w_15 (.int .i64) b16 (o17 + 5) fun n23 =>
                al w_15 47 [.int .i64 0, .int .i64 0, .str [], .int .i64 0, .int .i64 0, .int .i64 0] fun b24 w_25 =>
                st w_25 b24 0 [.int .i64 n18, .int .i64 n19, .str s20, .int .i64 n21, .int .i64 n22, .int .i64 n23] fun w_26 =>
                ld w_26 (.int .i64) b24 0 fun n27 =>
                ld w_26 (.int .i64) b24 1 fun n28 =>
                ld w_26 .str b24 2 fun s29 =>
                ld w_26 (.int .i64) b24 3 fun n30 =>
                ld w_26 (.int .i64) b24 4 fun n31 =>
                ld w_26 (.int .i64) b24 5 fun n32 =>
                callK Tryz.prog 15 [.leaf (.ptr s1), .leaf (.str out2), .leaf (.int .i64 t3614), .agg [.int .i64 n27, .int .i64 n28, .str s29, .int .i64 n30, .int .i64 n31, .int .i64 n32]] w_26 (.tup [.agg [.int .i64, .int .i64, .int .i64, .int .u32], .leaf (.bool)]) fun n33 n34 n35 n36 c37 w_38 =>
                al w_38 40 [.int .i64 0, .int .i64 0, .int .i64 0, .int .u32 0] fun b39 w_40 =>
                st w_40 b39 0 [.int .i64 n33, .int .i64 n34, .int .i64 n35, .int .u32 n36] fun w_41 =>
                ifK (!c37)
                (K 201 w_41)
                (ld w_41 (.int .i64) b39 0 fun n42 =>
                  ld w_41 (.int .i64) b39 1 fun n43 =>
                  ld w_41 (.int .i64) b39 2 fun n44 =>
                  ld w_41 (.int .u32) b39 3 fun n45 =>
                  al w_41 40 [.int .i64 n42, .int .i64 n43, .int .i64 n44, .int .u32 n45] fun b46 w_47 =>
                  ap w_47 40 4 32 [.int .i64 0, .int .i64 0, .int .i64 0, .int .u32 0] l13 (⟨some (b46, 0), 1, 1⟩) fun a48 w_49 =>
                  again12 a48 (w64 (t3614 + 1)) w_49))
              (k11 l13 w_15)) [.sl (⟨none, 0, 0⟩), .int .i64 0] w_10) fun l50 w_51 =>
          callK Tryz.prog 16 [.leaf (.ptr s1), .leaf (.str out2)] w_51 (.one (.leaf (.int .i64))) fun n52 w_53 =>
          ifK (n52 != 0)
          (K n52 w_53)
          (callK Tryz.prog 18 [.leaf (.sl l50)] w_53 (.one (.leaf (.sl))) fun a54 w_55 =>
            callK Tryz.prog 17 [.leaf (.ptr s1), .leaf (.str out2), .leaf (.sl a54)] w_55 (.one (.leaf (.int .i64))) fun n56 w_57 =>
            ifK (n56 != 0)
            (K n56 w_57)
            (callK Tryz.prog 19 [.leaf (.ptr s1), .leaf (.str out2)] w_57 (.one (.leaf (.int .i64))) fun n58 w_59 =>
              K n58 w_59))))))

def N_commit_Commit : Ann := (.mk none [] [] .done .nil (.mk none [] [] .done .nil (.mk none [] [] .done .nil (.mk none [] [] .done (.mk none [] [] .done (.mk (some [.tmp 29 (.leaf (.bool))]) [] [0, 1, 2] .done .nil .nil) .nil) (.mk none [] [] .done .nil (.mk none [] [] .done .nil (.mk none [] [] .done (.mk none [] [] .done .nil (.mk (some [.tmp 8 (.leaf (.sl))]) [] [0, 1] .done (.mk none [.tmp 8 (.leaf (.sl)), .tmp 36 (.leaf (.int .i64))] [0, 1, 34, 35] .done .nil .nil) .nil)) .nil)))))))

theorem is_commit_Commit (s1 : PA) (out2 : List UInt8) (parts3 : Sl) (K : Int → World → Prop) (w : World) : WF Tryz.prog CS Tryz.f5 N_commit_Commit (.one (.leaf (.int .i64))) [.leaf (.ptr s1), .leaf (.str out2), .leaf (.sl parts3)] K w = S_commit_Commit s1 out2 parts3 K w := by kernel_rfl
theorem go_commit_Commit (s1 : PA) (out2 : List UInt8) (parts3 : Sl) (K : Int → World → Prop) (w : World) (h : S_commit_Commit s1 out2 parts3 K w) : callK Tryz.prog 5 [.leaf (.ptr s1), .leaf (.str out2), .leaf (.sl parts3)] w (.one (.leaf (.int .i64))) K := by
  refine WF_sound (n := N_commit_Commit) CS_ok mixed Tryz.func5 ?_
  rw [is_commit_Commit]
  exact h

-- 6 winnow/commit.Clean
def S_commit_Clean (s1 : PA) (out2 : List UInt8) (K : Int → World → Prop) (w : World) : Prop :=
  joinK [.bool] (fun k3 =>
    ifK s1.isNone
    (k3 true w)
    (callK Tryz.prog 7 [.leaf (.str out2)] w (.one (.leaf (.int .i64))) fun n4 w_5 =>
      k3 (n4 != 0) w_5)) fun t216 w_7 =>
  ifK t216
  (K 0 w_7)
  (opF Tryz.prog (vS (Instr.makeMap 52 none)) w_7 (.one (.leaf (.map))) fun m9 w_8 =>
    callK Tryz.prog 8 [.leaf (.ptr s1), .leaf (.str out2)] w_8 (.tup [.leaf (.sl), .leaf (.int .i64)]) fun a10 n11 w_12 =>
    callK Tryz.prog 9 [.leaf (.sl a10)] w_12 (.tup [.leaf (.sl), .leaf (.bool)]) fun a13 c14 w_15 =>
    joinK [.bool] (fun k16 =>
      ifK (n11 == 0)
      (k16 c14 w_15)
      (k16 false w_15)) fun t3817 w_18 =>
    joinK [] (fun k19 =>
      ifK t3817
      (joinK [] (fun k20 =>
          loopL [.int .i64] (fun t4122 w_23 again21 =>
            ifK (decide (t4122 < (a13.len : Int)))
            (ix a13 4 t4122 fun b24 o25 =>
              ld w_23 (.int .i64) b24 o25 fun n26 =>
              ld w_23 (.int .i64) b24 (o25 + 1) fun n27 =>
              ld w_23 (.int .i64) b24 (o25 + 2) fun n28 =>
              ld w_23 (.int .u32) b24 (o25 + 3) fun n29 =>
              al w_23 40 [.int .i64 0, .int .i64 0, .int .i64 0, .int .u32 0] fun b30 w_31 =>
              st w_31 b30 0 [.int .i64 n26, .int .i64 n27, .int .i64 n28, .int .u32 n29] fun w_32 =>
              ld w_32 (.int .i64) b30 0 fun n33 =>
              callK Tryz.prog 12 [.leaf (.str out2), .leaf (.int .i64 t4122), .leaf (.int .i64 n33)] w_32 (.one (.leaf (.str))) fun s34 w_35 =>
              opU Tryz.prog (uS (Instr.mapUpdate 52 (LV.toV (.map m9)) (LV.toV (.str s34)) (LV.toV (.lit true)))) w_35 fun w_36 =>
              again21 (w64 (t4122 + 1)) w_36)
            (k20 w_23)) [.int .i64 0] w_18) fun w_37 =>
        k19 w_37)
      (k19 w_18)) fun w_38 =>
    callK Tryz.prog 14 [.leaf (.ptr s1), .leaf (.str out2)] w_38 (.one (.leaf (.int .i64))) fun n39 w_40 =>
    joinK [.int .i64] (fun k41 =>
      ifK (n39 == 1)
      (callK Tryz.prog 20 [.leaf (.ptr s1), .leaf (.str out2)] w_40 (.one (.leaf (.int .i64))) fun n42 w_43 =>
        k41 (w64 (0 + 1)) w_43)
      (k41 0 w_40)) fun n44 w_45 =>
    out2.length + [46].length < 2 ^ 62 ∧
    callK Tryz.prog 21 [.leaf (.ptr s1), .leaf (.str (out2 ++ [46]))] w_45 (.one (.leaf (.sl))) fun a46 w_47 =>
    joinK [.int .i64] (fun k48 =>
      loopL [.int .i64, .int .i64] (fun n50 t6751 w_52 again49 =>
        ifK (decide (t6751 < (a46.len : Int)))
        (ix a46 3 t6751 fun b53 o54 =>
          ld w_52 .str b53 o54 fun s55 =>
          ld w_52 (.int .i64) b53 (o54 + 1) fun n56 =>
          ld w_52 (.int .i64) b53 (o54 + 2) fun n57 =>
          al w_52 56 [.str [], .int .i64 0, .int .i64 0] fun b58 w_59 =>
          st w_59 b58 0 [.str s55, .int .i64 n56, .int .i64 n57] fun w_60 =>
          ld w_60 .str b58 0 fun s61 =>
          opF Tryz.prog (vS (Instr.lookup 52 (LV.toV (.map m9)) (LV.toV (.str s61)) false)) w_60 (.one (.leaf (.bool))) fun c63 w_62 =>
          joinK [.int .i64] (fun k64 =>
            ifK (!c63)
            (ld w_62 .str b58 0 fun s65 =>
              callK Tryz.prog 20 [.leaf (.ptr s1), .leaf (.str s65)] w_62 (.one (.leaf (.int .i64))) fun n66 w_67 =>
              k64 (w64 (n50 + 1)) w_67)
            (k64 n50 w_62)) fun n68 w_69 =>
          again49 n68 (w64 (t6751 + 1)) w_69)
        (k48 n50 w_52)) [.int .i64 n44, .int .i64 0] w_47) fun n70 w_71 =>
    K n70 w_71)

def N_commit_Clean : Ann := (.mk none [] [] .done .nil (.mk none [] [] .done (.mk none [] [] .done (.mk (some [.tmp 21 (.leaf (.bool))]) [] [0, 1] .done .nil .nil) .nil) (.mk none [] [] .done .nil (.mk none [] [] .done .nil (.mk none [] [] .done .nil (.mk none [] [] .done (.mk none [] [] .done (.mk (some [.tmp 38 (.leaf (.bool))]) [] [0, 1, 5, 8] .done .nil .nil) (.mk (some []) [] [0, 1, 5] .done (.mk none [] [] .done .nil (.mk (some []) [] [0, 1, 5] .done (.mk none [.tmp 41 (.leaf (.int .i64))] [0, 1, 5, 39, 40] .done .nil .nil) .nil)) .nil)) (.mk none [] [] .done .nil (.mk none [] [] .done (.mk none [] [] .done .nil (.mk (some [.tmp 12 (.leaf (.int .i64))]) [] [0, 1, 5] .done .nil .nil)) (.mk none [] [] .done (.mk none [] [] .done .nil (.mk (some [.tmp 12 (.leaf (.int .i64))]) [] [] .done (.mk none [.tmp 12 (.leaf (.int .i64)), .tmp 67 (.leaf (.int .i64))] [0, 5, 65, 66] .done (.mk none [] [] .done .nil (.mk none [] [] .done .nil (.mk none [] [] .done (.mk none [] [] .done (.mk none [] [] .done .nil (.mk none [] [] .done .nil (.mk (some [.tmp 12 (.leaf (.int .i64))]) [] [0, 5, 65, 66, 67] .done .nil .nil))) .nil) .nil))) .nil) .nil)) .nil)))))))))

theorem is_commit_Clean (s1 : PA) (out2 : List UInt8) (K : Int → World → Prop) (w : World) : WF Tryz.prog CS Tryz.f6 N_commit_Clean (.one (.leaf (.int .i64))) [.leaf (.ptr s1), .leaf (.str out2)] K w = S_commit_Clean s1 out2 K w := by kernel_rfl
theorem go_commit_Clean (s1 : PA) (out2 : List UInt8) (K : Int → World → Prop) (w : World) (h : S_commit_Clean s1 out2 K w) : callK Tryz.prog 6 [.leaf (.ptr s1), .leaf (.str out2)] w (.one (.leaf (.int .i64))) K := by
  refine WF_sound (n := N_commit_Clean) CS_ok mixed Tryz.func6 ?_
  rw [is_commit_Clean]
  exact h


end Go.Proofs.YtjefbjfifjjpmaaGreatDoor
