/- Readings: chain's splits and names. -/
import Derived.Test.YtjldecomhpngmaaDoorS0
namespace Go.Proofs.YtjldecomhpngmaaDoor
open Go.Vw
-- 3 winnow/winnowlaw24.ChainSplits
def S_winnowlaw24_ChainSplits (parts1 : Sl) (out2 : List UInt8) (job3 : Int) (K : Bool → World → Prop) (w : World) : Prop :=
  callK Tryd.prog 4 [.leaf (.sl parts1)] w (.one (.leaf (.sl))) fun a4 w_5 =>
  slx a4 1 none (some (parts1.len : Int)) none fun s6 =>
  callK Tryd.prog 5 [.leaf (.sl s6)] w_5 (.tup [.leaf (.sl), .leaf (.int .i64)]) fun a7 n8 w_9 =>
  slx a4 1 none (some (parts1.len : Int)) none fun s10 =>
  callK Tryd.prog 5 [.leaf (.sl s10)] w_9 (.tup [.leaf (.sl), .leaf (.int .i64)]) fun a11 n12 w_13 =>
  callK Tryd.prog 6 [.leaf (.sl parts1)] w_13 (.tup [.leaf (.sl), .leaf (.int .i64)]) fun a14 n15 w_16 =>
  joinK [.bool] (fun k17 =>
    ifK (n8 != n15)
    (k17 true w_16)
    (ifK (n12 != n15)
      (k17 true w_16)
      (callK Tryd.prog 7 [.leaf (.sl a7), .leaf (.sl a14)] w_16 (.one (.leaf (.bool))) fun c18 w_19 =>
        k17 (!c18) w_19))) fun t5420 w_21 =>
  ifK t5420
  (K false w_21)
  (joinK [] (fun k22 =>
      loopL [.int .i64] (fun i24 w_25 again23 =>
        ifK (decide (i24 < (a7.len : Int)))
        (ix a7 2 i24 fun b26 o27 =>
          st w_25 b26 o27 [.int .i64 (-9), .str []] fun w_28 =>
          again23 (w64 (i24 + 1)) w_28)
        (k22 w_25)) [.int .i64 0] w_21) fun w_29 =>
    joinK [] (fun k30 =>
      loopL [.sl, .int .i64] (fun a32 i33 w_34 again31 =>
        ifK (decide (i33 < 64))
        (al w_34 30 [.int .i64 (-8), .str []] fun b35 w_36 =>
          ap w_36 30 2 24 [.int .i64 0, .str []] a32 (⟨some (b35, 0), 1, 1⟩) fun a37 w_38 =>
          again31 a37 (w64 (i33 + 1)) w_38)
        (k30 w_34)) [.sl a7, .int .i64 0] w_29) fun w_39 =>
    joinK [.bool] (fun k40 =>
      callK Tryd.prog 7 [.leaf (.sl a11), .leaf (.sl a14)] w_39 (.one (.leaf (.bool))) fun c41 w_42 =>
      ifK (!c41)
      (k40 true w_42)
      (callK Tryd.prog 8 [.leaf (.sl a4), .leaf (.sl parts1)] w_42 (.one (.leaf (.bool))) fun c43 w_44 =>
        ifK (!c43)
        (k40 true w_44)
        (callK Tryd.prog 9 [.leaf (.str out2), .leaf (.int .i64 job3)] w_44 (.one (.leaf (.str))) fun s45 w_46 =>
          callK Tryd.prog 10 [.leaf (.str out2), .leaf (.int .i64 job3)] w_46 (.one (.leaf (.str))) fun s47 w_48 =>
          k40 (!(s45 == s47)) w_48))) fun t9149 w_50 =>
    ifK t9149
    (K false w_50)
    (joinK [.sl] (fun k51 =>
        loopL [.sl, .int .i64] (fun now53 i54 w_55 again52 =>
          ifK (decide (i54 < (parts1.len : Int)))
          (ix parts1 1 (w64 ((w64 ((parts1.len : Int) - 1)) - i54)) fun b56 o57 =>
            ld w_55 .str b56 o57 fun s58 =>
            ix a4 1 i54 fun b59 o60 =>
            st w_55 b59 o60 [.str s58] fun w_61 =>
            ix a4 1 i54 fun b62 o63 =>
            ld w_61 .str b62 o63 fun s64 =>
            al w_61 9 [.str s64] fun b65 w_66 =>
            ap w_66 9 1 16 [.str []] now53 (⟨some (b65, 0), 1, 1⟩) fun a67 w_68 =>
            again52 a67 (w64 (i54 + 1)) w_68)
          (k51 now53 w_55)) [.sl (⟨none, 0, 0⟩), .int .i64 0] w_50) fun now69 w_70 =>
      slx a4 1 none (some (parts1.len : Int)) none fun s71 =>
      callK Tryd.prog 5 [.leaf (.sl s71)] w_70 (.tup [.leaf (.sl), .leaf (.int .i64)]) fun a72 n73 w_74 =>
      callK Tryd.prog 6 [.leaf (.sl now69)] w_74 (.tup [.leaf (.sl), .leaf (.int .i64)]) fun a75 n76 w_77 =>
      joinK [.bool] (fun k78 =>
        ifK (n73 == n76)
        (callK Tryd.prog 7 [.leaf (.sl a72), .leaf (.sl a75)] w_77 (.one (.leaf (.bool))) fun c79 w_80 =>
          k78 c79 w_80)
        (k78 false w_77)) fun t681 w_82 =>
      K t681 w_82))

def N_winnowlaw24_ChainSplits : Ann := (.mk none [] [] .done .nil (.mk none [] [] .done .nil (.mk none [] [] .done .nil (.mk none [] [] .done .nil (.mk none [] [] .done .nil (.mk none [] [] .done (.mk none [] [] .done (.mk (some [.tmp 54 (.leaf (.bool))]) [] [0, 1, 2, 7, 8, 10, 12] .done .nil .nil) .nil) (.mk none [] [] .done (.mk none [] [] .done .nil (.mk (some []) [] [0, 1, 2, 7, 8, 10, 12] .done (.mk none [.tmp 14 (.leaf (.int .i64))] [0, 1, 2, 7, 8, 10, 12] .done .nil .nil) .nil)) (.mk none [] [] .done (.mk none [] [] .done .nil (.mk (some []) [] [0, 1, 2, 7, 10, 12] .done (.mk none [.tmp 8 (.leaf (.sl)), .tmp 15 (.leaf (.int .i64))] [0, 1, 2, 7, 10, 12] .done .nil .nil) .nil)) (.mk none [] [] .done (.mk none [] [] .done (.mk (some [.tmp 91 (.leaf (.bool))]) [] [0, 7] .done .nil .nil) .nil) (.mk none [] [] .done .nil (.mk none [] [] .done (.mk none [] [] .done .nil (.mk (some [.tmp 16 (.leaf (.sl))]) [] [0, 7] .done (.mk none [.tmp 16 (.leaf (.sl)), .tmp 17 (.leaf (.int .i64))] [0, 7] .done .nil .nil) .nil)) (.mk none [] [] .done .nil (.mk none [] [] .done .nil (.mk none [] [] .done (.mk (some [.tmp 6 (.leaf (.bool))]) [] [] .done .nil .nil) .nil))))))))))))))

theorem is_winnowlaw24_ChainSplits (parts1 : Sl) (out2 : List UInt8) (job3 : Int) (K : Bool → World → Prop) (w : World) : WF Tryd.prog CS Tryd.f3 N_winnowlaw24_ChainSplits (.one (.leaf (.bool))) [.leaf (.sl parts1), .leaf (.str out2), .leaf (.int .i64 job3)] K w = S_winnowlaw24_ChainSplits parts1 out2 job3 K w := by kernel_rfl
theorem go_winnowlaw24_ChainSplits (parts1 : Sl) (out2 : List UInt8) (job3 : Int) (K : Bool → World → Prop) (w : World) (h : S_winnowlaw24_ChainSplits parts1 out2 job3 K w) : callK Tryd.prog 3 [.leaf (.sl parts1), .leaf (.str out2), .leaf (.int .i64 job3)] w (.one (.leaf (.bool))) K := by
  refine WF_sound (n := N_winnowlaw24_ChainSplits) CS_ok mixed Tryd.func3 ?_
  rw [is_winnowlaw24_ChainSplits]
  exact h

-- 4 winnow/winnowlaw24.spare
def S_winnowlaw24_spare (l1 : Sl) (K : Sl → World → Prop) (w : World) : Prop :=
  ap w 9 1 16 [.str []] (⟨none, 0, 0⟩) l1 fun a2 w_3 =>
  al w_3 9 [.str [115, 112, 97, 114, 101], .str [114, 111, 111, 109]] fun b4 w_5 =>
  ap w_5 9 1 16 [.str []] a2 (⟨some (b4, 0), 2, 2⟩) fun a6 w_7 =>
  K a6 w_7

def N_winnowlaw24_spare : Ann := .nil

theorem is_winnowlaw24_spare (l1 : Sl) (K : Sl → World → Prop) (w : World) : WF Tryd.prog CS Tryd.f4 N_winnowlaw24_spare (.one (.leaf (.sl))) [.leaf (.sl l1)] K w = S_winnowlaw24_spare l1 K w := by kernel_rfl
theorem go_winnowlaw24_spare (l1 : Sl) (K : Sl → World → Prop) (w : World) (h : S_winnowlaw24_spare l1 K w) : callK Tryd.prog 4 [.leaf (.sl l1)] w (.one (.leaf (.sl))) K := by
  refine WF_sound (n := N_winnowlaw24_spare) CS_ok mixed Tryd.func4 ?_
  rw [is_winnowlaw24_spare]
  exact h

-- 5 winnow/chain.Splits
def S_chain_Splits (parts1 : Sl) (K : Sl → Int → World → Prop) (w : World) : Prop :=
  callK Tryd.prog 11 [.leaf (.sl parts1), .leaf (.str [])] w (.one (.leaf (.str))) fun s2 w_3 =>
  ifK (decide (4194304 < (s2.length : Int)))
  (K (⟨none, 0, 0⟩) 2 w_3)
  (joinK [.sl, .int .i64, .int .i64] (fun k4 =>
      loopL [.sl, .int .i64, .int .i64] (fun l6 from_7 to8 w_9 again5 =>
        ifK (decide (to8 < (s2.length : Int)))
        (ssx s2 (some to8) none fun s10 =>
          callK Tryd.prog 12 [.leaf (.str s10), .leaf (.int .u8 10)] w_9 (.one (.leaf (.int .i64))) fun n11 w_12 =>
          joinK [.int .i64] (fun k13 =>
            ifK (decide (0 ≤ n11))
            (k13 (w64 ((w64 (to8 + n11)) + 1)) w_12)
            (k13 (s2.length : Int) w_12)) fun end_14 w_15 =>
          ifK (decide (65536 < w64 (end_14 - to8)))
          (K (⟨none, 0, 0⟩) 2 w_15)
          (joinK [.sl, .int .i64] (fun k16 =>
              ifK (decide (65536 < w64 (end_14 - from_7)))
              (ssx s2 (some from_7) (some to8) fun s17 =>
                al w_15 30 [.int .i64 from_7, .str s17] fun b18 w_19 =>
                ap w_19 30 2 24 [.int .i64 0, .str []] l6 (⟨some (b18, 0), 1, 1⟩) fun a20 w_21 =>
                k16 a20 to8 w_21)
              (k16 l6 from_7 w_15)) fun l22 from_23 w_24 =>
            again5 l22 from_23 end_14 w_24))
        (k4 l6 from_7 to8 w_9)) [.sl (⟨none, 0, 0⟩), .int .i64 0, .int .i64 0] w_3) fun l25 from_26 to27 w_28 =>
    joinK [.sl] (fun k29 =>
      ifK (decide (from_26 < to27))
      (ssx s2 (some from_26) (some to27) fun s30 =>
        al w_28 30 [.int .i64 from_26, .str s30] fun b31 w_32 =>
        ap w_32 30 2 24 [.int .i64 0, .str []] l25 (⟨some (b31, 0), 1, 1⟩) fun a33 w_34 =>
        k29 a33 w_34)
      (k29 l25 w_28)) fun l35 w_36 =>
    ifK (decide (256 < (l35.len : Int)))
    (K (⟨none, 0, 0⟩) 2 w_36)
    (K l35 0 w_36))

def N_chain_Splits : Ann := (.mk none [] [] .done .nil (.mk none [] [] .done .nil (.mk none [] [] .done .nil (.mk none [] [] .done .nil (.mk none [] [] .done .nil (.mk none [] [] .done (.mk (some [.tmp 5 (.leaf (.sl)), .tmp 6 (.leaf (.int .i64)), .tmp 7 (.leaf (.int .i64))]) [] [4] .done (.mk none [.tmp 5 (.leaf (.sl)), .tmp 6 (.leaf (.int .i64)), .tmp 7 (.leaf (.int .i64))] [4] .done (.mk none [] [] .done .nil (.mk none [] [] .done (.mk none [] [] .done .nil (.mk none [] [] .done (.mk none [] [] .done .nil (.mk none [] [] .done .nil (.mk (some [.tmp 8 (.leaf (.int .i64))]) [] [4, 5, 6, 7] .done .nil .nil))) (.mk none [] [] .done .nil (.mk none [] [] .done (.mk none [] [] .done .nil (.mk (some [.tmp 5 (.leaf (.sl)), .tmp 6 (.leaf (.int .i64))]) [] [4, 8] .done .nil .nil)) .nil)))) .nil)) .nil) .nil) (.mk none [] [] .done (.mk none [] [] .done .nil (.mk (some [.tmp 5 (.leaf (.sl))]) [] [] .done .nil .nil)) .nil)))))))

theorem is_chain_Splits (parts1 : Sl) (K : Sl → Int → World → Prop) (w : World) : WF Tryd.prog CS Tryd.f5 N_chain_Splits (.tup [.leaf (.sl), .leaf (.int .i64)]) [.leaf (.sl parts1)] K w = S_chain_Splits parts1 K w := by kernel_rfl
theorem go_chain_Splits (parts1 : Sl) (K : Sl → Int → World → Prop) (w : World) (h : S_chain_Splits parts1 K w) : callK Tryd.prog 5 [.leaf (.sl parts1)] w (.tup [.leaf (.sl), .leaf (.int .i64)]) K := by
  refine WF_sound (n := N_chain_Splits) CS_ok mixed Tryd.func5 ?_
  rw [is_chain_Splits]
  exact h

-- 6 winnow/winnowref24.Splits
def S_winnowref24_Splits (parts1 : Sl) (K : Sl → Int → World → Prop) (w : World) : Prop :=
  joinK [] (fun k2 =>
    loopL [.int .i64, .int .i64] (fun size4 i5 w_6 again3 =>
      ifK (decide (i5 < (parts1.len : Int)))
      (ix parts1 1 i5 fun b7 o8 =>
        ld w_6 .str b7 o8 fun s9 =>
        ifK (decide (4194304 < w64 (size4 + (s9.length : Int))))
        (K (⟨none, 0, 0⟩) 2 w_6)
        (again3 (w64 (size4 + (s9.length : Int))) (w64 (i5 + 1)) w_6))
      (k2 w_6)) [.int .i64 0, .int .i64 0] w) fun w_10 =>
  joinK [.sl] (fun k11 =>
    loopL [.sl, .int .i64] (fun text13 i14 w_15 again12 =>
      ifK (decide (i14 < (parts1.len : Int)))
      (ix parts1 1 i14 fun b16 o17 =>
        ld w_15 .str b16 o17 fun s18 =>
        opF Tryd.prog (builtin .append #[36, 9] 36 #[false, false] #[(LV.toV (.sl text13)), (LV.toV (.str s18))]) w_15 (.one (.leaf (.sl))) fun a20 w_19 =>
        again12 a20 (w64 (i14 + 1)) w_19)
      (k11 text13 w_15)) [.sl (⟨none, 0, 0⟩), .int .i64 0] w_10) fun text21 w_22 =>
  joinK [.sl] (fun k23 =>
    loopL [.sl, .int .i64] (fun l25 from_26 w_27 again24 =>
      ifK (decide (from_26 < (text21.len : Int)))
      (joinK [.int .i64] (fun k28 =>
          loopL [.int .i64] (fun end_30 w_31 again29 =>
            joinK [.int .i64] (fun k32 =>
              loopL [.int .i64] (fun next34 w_35 again33 =>
                joinK [.bool] (fun k36 =>
                  ifK (decide (next34 < (text21.len : Int)))
                  (ix text21 1 next34 fun b37 o38 =>
                    ld w_35 (.int .u8) b37 o38 fun n39 =>
                    k36 (n39 != 10) w_35)
                  (k36 false w_35)) fun t5540 w_41 =>
                ifK t5540
                (again33 (w64 (next34 + 1)) w_41)
                (k32 next34 w_41)) [.int .i64 end_30] w_31) fun next42 w_43 =>
            joinK [.int .i64] (fun k44 =>
              ifK (decide (next42 < (text21.len : Int)))
              (k44 (w64 (next42 + 1)) w_43)
              (k44 next42 w_43)) fun next45 w_46 =>
            joinK [.bool] (fun k47 =>
              ifK (next45 == end_30)
              (k47 true w_46)
              (k47 (decide (65536 < w64 (next45 - from_26))) w_46)) fun t7248 w_49 =>
            ifK t7248
            (k28 end_30 w_49)
            (again29 next45 w_49)) [.int .i64 from_26] w_27) fun end_50 w_51 =>
        joinK [.bool] (fun k52 =>
          ifK (end_50 == from_26)
          (k52 true w_51)
          (k52 ((l25.len : Int) == 256) w_51)) fun t8153 w_54 =>
        ifK t8153
        (K (⟨none, 0, 0⟩) 2 w_54)
        (slx text21 1 (some from_26) (some end_50) none fun s55 =>
          opF Tryd.prog (vS (convert 36 9 (LV.toV (.sl s55)))) w_54 (.one (.leaf (.str))) fun s57 w_56 =>
          al w_56 30 [.int .i64 from_26, .str s57] fun b58 w_59 =>
          ap w_59 30 2 24 [.int .i64 0, .str []] l25 (⟨some (b58, 0), 1, 1⟩) fun a60 w_61 =>
          again24 a60 end_50 w_61))
      (k23 l25 w_27)) [.sl (⟨none, 0, 0⟩), .int .i64 0] w_22) fun l62 w_63 =>
  K l62 0 w_63

def N_winnowref24_Splits : Ann := (.mk none [] [] .done .nil (.mk none [] [] .done .nil (.mk none [] [] .done (.mk none [] [] .done .nil (.mk (some []) [] [0] .done (.mk none [.tmp 4 (.leaf (.int .i64)), .tmp 5 (.leaf (.int .i64))] [0] .done .nil .nil) .nil)) (.mk none [] [] .done .nil (.mk none [] [] .done (.mk none [] [] .done .nil (.mk (some [.tmp 6 (.leaf (.sl))]) [] [] .done (.mk none [.tmp 6 (.leaf (.sl)), .tmp 7 (.leaf (.int .i64))] [0] .done .nil .nil) .nil)) (.mk none [] [] .done .nil (.mk none [] [] .done .nil (.mk none [] [] .done (.mk (some [.tmp 8 (.leaf (.sl))]) [] [] .done (.mk none [.tmp 8 (.leaf (.sl)), .tmp 9 (.leaf (.int .i64))] [6] .done (.mk none [] [] .done .nil (.mk none [] [] .done (.mk none [] [] .done .nil (.mk none [] [] .done (.mk (some [.tmp 10 (.leaf (.int .i64))]) [] [6, 8, 9] .done (.mk none [.tmp 10 (.leaf (.int .i64))] [6, 8, 9] .done (.mk none [] [] .done (.mk none [] [] .done .nil (.mk none [] [] .done (.mk (some [.tmp 11 (.leaf (.int .i64))]) [] [6, 8, 9, 10] .done (.mk none [.tmp 11 (.leaf (.int .i64))] [6, 8, 9, 10] .done (.mk none [] [] .done (.mk none [] [] .done (.mk (some [.tmp 55 (.leaf (.bool))]) [] [6, 8, 9, 10, 11] .done .nil .nil) .nil) .nil) .nil) .nil) (.mk none [] [] .done (.mk none [] [] .done .nil (.mk (some [.tmp 11 (.leaf (.int .i64))]) [] [6, 8, 9, 10] .done .nil .nil)) (.mk none [] [] .done (.mk none [] [] .done (.mk (some [.tmp 72 (.leaf (.bool))]) [] [6, 8, 9, 10, 11] .done .nil .nil) .nil) .nil)))) .nil) .nil) .nil) (.mk none [] [] .done (.mk none [] [] .done (.mk (some [.tmp 81 (.leaf (.bool))]) [] [6, 8, 9, 10] .done .nil .nil) .nil) .nil))) .nil)) .nil) .nil) .nil))))))))

theorem is_winnowref24_Splits (parts1 : Sl) (K : Sl → Int → World → Prop) (w : World) : WF Tryd.prog CS Tryd.f6 N_winnowref24_Splits (.tup [.leaf (.sl), .leaf (.int .i64)]) [.leaf (.sl parts1)] K w = S_winnowref24_Splits parts1 K w := by kernel_rfl
theorem go_winnowref24_Splits (parts1 : Sl) (K : Sl → Int → World → Prop) (w : World) (h : S_winnowref24_Splits parts1 K w) : callK Tryd.prog 6 [.leaf (.sl parts1)] w (.tup [.leaf (.sl), .leaf (.int .i64)]) K := by
  refine WF_sound (n := N_winnowref24_Splits) CS_ok mixed Tryd.func6 ?_
  rw [is_winnowref24_Splits]
  exact h

-- 7 winnow/winnowlaw24.sameSplits
def S_winnowlaw24_sameSplits (a1 : Sl) (b2 : Sl) (K : Bool → World → Prop) (w : World) : Prop :=
  ifK ((a1.len : Int) != (b2.len : Int))
  (K false w)
  (joinK [] (fun k3 =>
      loopL [.int .i64] (fun i5 w_6 again4 =>
        ifK (decide (i5 < (a1.len : Int)))
        (drawK w_6 fun D w_7 =>
          ix a1 2 i5 fun b8 o9 =>
          ldD D w_7 (.int .i64) b8 o9 fun n10 =>
          ldD D w_7 .str b8 (o9 + 1) fun s11 =>
          ix b2 2 i5 fun b12 o13 =>
          ldD D w_7 (.int .i64) b12 o13 fun n14 =>
          ldD D w_7 .str b12 (o13 + 1) fun s15 =>
          opF Tryd.prog (vS (do eqGuard .neq 30 (.tmp 20) (.tmp 24) (.agg #[(LV.toV (.int .i64 n10)), (LV.toV (.str s11))]) (.agg #[(LV.toV (.int .i64 n14)), (LV.toV (.str s15))]); binOp .neq 30 (.agg #[(LV.toV (.int .i64 n10)), (LV.toV (.str s11))]) (.agg #[(LV.toV (.int .i64 n14)), (LV.toV (.str s15))]))) w_7 (.one (.leaf (.bool))) fun c17 w_16 =>
          Mod D w_7 w_16 ∧
          ifK c17
          (K false w_16)
          (again4 (w64 (i5 + 1)) w_16))
        (k3 w_6)) [.int .i64 0] w) fun w_18 =>
    K true w_18)

def N_winnowlaw24_sameSplits : Ann := (.mk none [] [] .done .nil (.mk none [] [] .done .nil (.mk none [] [] .done (.mk none [] [] .done .nil (.mk (some []) [] [] .done (.mk none [.tmp 5 (.leaf (.int .i64))] [0, 1] .done (.mk none [] [] .done .nil (.mk none [] [] .done (.mk none [] [] .done (.mk none [] [] .done (.mk none [] [] (.take 0 (.take 1 (.take 2 (.take 3 (.take 4 (.take 5 (.take 6 (.take 7 (.eff 8 .done))))))))) .nil .nil) .nil) .nil) .nil)) .nil) .nil)) .nil)))

theorem is_winnowlaw24_sameSplits (a1 : Sl) (b2 : Sl) (K : Bool → World → Prop) (w : World) : WF Tryd.prog CS Tryd.f7 N_winnowlaw24_sameSplits (.one (.leaf (.bool))) [.leaf (.sl a1), .leaf (.sl b2)] K w = S_winnowlaw24_sameSplits a1 b2 K w := by kernel_rfl
theorem go_winnowlaw24_sameSplits (a1 : Sl) (b2 : Sl) (K : Bool → World → Prop) (w : World) (h : S_winnowlaw24_sameSplits a1 b2 K w) : callK Tryd.prog 7 [.leaf (.sl a1), .leaf (.sl b2)] w (.one (.leaf (.bool))) K := by
  refine WF_sound (n := N_winnowlaw24_sameSplits) CS_ok mixed Tryd.func7 ?_
  rw [is_winnowlaw24_sameSplits]
  exact h

-- 8 winnow/winnowlaw24.kept
def S_winnowlaw24_kept (g1 : Sl) (l2 : Sl) (K : Bool → World → Prop) (w : World) : Prop :=
  joinK [.bool] (fun k3 =>
    ifK ((g1.len : Int) == (w64 ((l2.len : Int) + 2)))
    (slx g1 1 none (some (l2.len : Int)) none fun s4 =>
      callK Tryd.prog 13 [.leaf (.sl s4), .leaf (.sl l2)] w (.one (.leaf (.bool))) fun c5 w_6 =>
      ifK c5
      (ix g1 1 (l2.len : Int) fun b7 o8 =>
        ld w_6 .str b7 o8 fun s9 =>
        ifK (s9 == [115, 112, 97, 114, 101])
        (ix g1 1 (w64 ((l2.len : Int) + 1)) fun b10 o11 =>
          ld w_6 .str b10 o11 fun s12 =>
          k3 (s12 == [114, 111, 111, 109]) w_6)
        (k3 false w_6))
      (k3 false w_6))
    (k3 false w)) fun t413 w_14 =>
  K t413 w_14

def N_winnowlaw24_kept : Ann := (.mk none [] [] .done .nil (.mk none [] [] .done (.mk (some [.tmp 4 (.leaf (.bool))]) [] [] .done .nil .nil) .nil))

theorem is_winnowlaw24_kept (g1 : Sl) (l2 : Sl) (K : Bool → World → Prop) (w : World) : WF Tryd.prog CS Tryd.f8 N_winnowlaw24_kept (.one (.leaf (.bool))) [.leaf (.sl g1), .leaf (.sl l2)] K w = S_winnowlaw24_kept g1 l2 K w := by kernel_rfl
theorem go_winnowlaw24_kept (g1 : Sl) (l2 : Sl) (K : Bool → World → Prop) (w : World) (h : S_winnowlaw24_kept g1 l2 K w) : callK Tryd.prog 8 [.leaf (.sl g1), .leaf (.sl l2)] w (.one (.leaf (.bool))) K := by
  refine WF_sound (n := N_winnowlaw24_kept) CS_ok mixed Tryd.func8 ?_
  rw [is_winnowlaw24_kept]
  exact h

-- 9 winnow/chain.Name
def S_chain_Name (out1 : List UInt8) (job2 : Int) (K : List UInt8 → World → Prop) (w : World) : Prop :=
  joinK [.bool] (fun k3 =>
    ifK (decide (job2 < 0))
    (k3 true w)
    (k3 (decide (8 ≤ job2)) w)) fun t104 w_5 =>
  ifK t104
  (K [] w_5)
  (out1.length + [45].length < 2 ^ 62 ∧
    callK Tryd.prog 14 [.leaf (.int .i64 job2)] w_5 (.one (.leaf (.str))) fun s6 w_7 =>
    (out1 ++ [45]).length + s6.length < 2 ^ 62 ∧
    K ((out1 ++ [45]) ++ s6) w_7)

def N_chain_Name : Ann := (.mk none [] [] .done .nil (.mk none [] [] .done (.mk none [] [] .done (.mk (some [.tmp 10 (.leaf (.bool))]) [] [0, 1] .done .nil .nil) .nil) .nil))

theorem is_chain_Name (out1 : List UInt8) (job2 : Int) (K : List UInt8 → World → Prop) (w : World) : WF Tryd.prog CS Tryd.f9 N_chain_Name (.one (.leaf (.str))) [.leaf (.str out1), .leaf (.int .i64 job2)] K w = S_chain_Name out1 job2 K w := by kernel_rfl
theorem go_chain_Name (out1 : List UInt8) (job2 : Int) (K : List UInt8 → World → Prop) (w : World) (h : S_chain_Name out1 job2 K w) : callK Tryd.prog 9 [.leaf (.str out1), .leaf (.int .i64 job2)] w (.one (.leaf (.str))) K := by
  refine WF_sound (n := N_chain_Name) CS_ok mixed Tryd.func9 ?_
  rw [is_chain_Name]
  exact h

-- 10 winnow/winnowref24.Name
def S_winnowref24_Name (out1 : List UInt8) (job2 : Int) (K : List UInt8 → World → Prop) (w : World) : Prop :=
  joinK [.bool] (fun k3 =>
    ifK (decide (job2 < 0))
    (k3 true w)
    (k3 (decide (8 ≤ job2)) w)) fun t104 w_5 =>
  ifK t104
  (K [] w_5)
  (out1.length + [45].length < 2 ^ 62 ∧
    callK Tryd.prog 15 [.leaf (.int .i64 job2)] w_5 (.one (.leaf (.str))) fun s6 w_7 =>
    (out1 ++ [45]).length + s6.length < 2 ^ 62 ∧
    K ((out1 ++ [45]) ++ s6) w_7)

def N_winnowref24_Name : Ann := (.mk none [] [] .done .nil (.mk none [] [] .done (.mk none [] [] .done (.mk (some [.tmp 10 (.leaf (.bool))]) [] [0, 1] .done .nil .nil) .nil) .nil))

theorem is_winnowref24_Name (out1 : List UInt8) (job2 : Int) (K : List UInt8 → World → Prop) (w : World) : WF Tryd.prog CS Tryd.f10 N_winnowref24_Name (.one (.leaf (.str))) [.leaf (.str out1), .leaf (.int .i64 job2)] K w = S_winnowref24_Name out1 job2 K w := by kernel_rfl
theorem go_winnowref24_Name (out1 : List UInt8) (job2 : Int) (K : List UInt8 → World → Prop) (w : World) (h : S_winnowref24_Name out1 job2 K w) : callK Tryd.prog 10 [.leaf (.str out1), .leaf (.int .i64 job2)] w (.one (.leaf (.str))) K := by
  refine WF_sound (n := N_winnowref24_Name) CS_ok mixed Tryd.func10 ?_
  rw [is_winnowref24_Name]
  exact h

-- 13 winnow/winnowlaw24.sameTexts
def S_winnowlaw24_sameTexts (a1 : Sl) (b2 : Sl) (K : Bool → World → Prop) (w : World) : Prop :=
  ifK ((a1.len : Int) != (b2.len : Int))
  (K false w)
  (joinK [] (fun k3 =>
      loopL [.int .i64] (fun i5 w_6 again4 =>
        ifK (decide (i5 < (a1.len : Int)))
        (drawK w_6 fun D w_7 =>
          ix a1 1 i5 fun b8 o9 =>
          ldD D w_7 .str b8 o9 fun s10 =>
          ix b2 1 i5 fun b11 o12 =>
          ldD D w_7 .str b11 o12 fun s13 =>
          ifK (!(s10 == s13))
          (K false w_7)
          (again4 (w64 (i5 + 1)) w_7))
        (k3 w_6)) [.int .i64 0] w) fun w_14 =>
    K true w_14)

def N_winnowlaw24_sameTexts : Ann := (.mk none [] [] .done .nil (.mk none [] [] .done .nil (.mk none [] [] .done (.mk none [] [] .done .nil (.mk (some []) [] [] .done (.mk none [.tmp 5 (.leaf (.int .i64))] [0, 1] .done (.mk none [] [] .done .nil (.mk none [] [] .done (.mk none [] [] .done (.mk none [] [] .done (.mk none [] [] (.take 0 (.take 1 (.take 2 (.take 3 (.take 4 (.take 5 (.take 6 (.take 7 (.take 8 .done))))))))) .nil .nil) .nil) .nil) .nil)) .nil) .nil)) .nil)))

theorem is_winnowlaw24_sameTexts (a1 : Sl) (b2 : Sl) (K : Bool → World → Prop) (w : World) : WF Tryd.prog CS Tryd.f13 N_winnowlaw24_sameTexts (.one (.leaf (.bool))) [.leaf (.sl a1), .leaf (.sl b2)] K w = S_winnowlaw24_sameTexts a1 b2 K w := by kernel_rfl
theorem go_winnowlaw24_sameTexts (a1 : Sl) (b2 : Sl) (K : Bool → World → Prop) (w : World) (h : S_winnowlaw24_sameTexts a1 b2 K w) : callK Tryd.prog 13 [.leaf (.sl a1), .leaf (.sl b2)] w (.one (.leaf (.bool))) K := by
  refine WF_sound (n := N_winnowlaw24_sameTexts) CS_ok mixed Tryd.func13 ?_
  rw [is_winnowlaw24_sameTexts]
  exact h

-- 15 winnow/winnowref15.Decimal
def S_winnowref15_Decimal (v1 : Int) (K : List UInt8 → World → Prop) (w : World) : Prop :=
  ifK (v1 == 0)
  (K [48] w)
  (joinK [.str] (fun k2 =>
      loopL [.int .i64, .str] (fun v4 s5 w_6 again3 =>
        ifK (v4 != 0)
        (joinK [.int .i64] (fun k7 =>
            ifK (decide (v4.tmod 10 < 0))
            (k7 (w64 (0 - (v4.tmod 10))) w_6)
            (k7 (v4.tmod 10) w_6)) fun d8 w_9 =>
          opF Tryd.prog (vS (convert 21 9 (LV.toV (.int .i32 (IntKind.wrap .i32 (w64 (48 + d8))))))) w_9 (.one (.leaf (.str))) fun s11 w_10 =>
          s11.length + s5.length < 2 ^ 62 ∧
          again3 (w64 (v4.tdiv 10)) (s11 ++ s5) w_10)
        (k2 s5 w_6)) [.int .i64 v1, .str []] w) fun s12 w_13 =>
    joinK [.str] (fun k14 =>
      ifK (decide (v1 < 0))
      ([45].length + s12.length < 2 ^ 62 ∧
        k14 ([45] ++ s12) w_13)
      (k14 s12 w_13)) fun s15 w_16 =>
    K s15 w_16)

def N_winnowref15_Decimal : Ann := (.mk none [] [] .done .nil (.mk none [] [] .done .nil (.mk none [] [] .done .nil (.mk none [] [] .done .nil (.mk none [] [] .done (.mk (some [.tmp 3 (.leaf (.str))]) [] [4] .done (.mk none [.tmp 0 (.leaf (.int .i64)), .tmp 3 (.leaf (.str))] [4] .done (.mk none [] [] .done .nil (.mk none [] [] .done (.mk none [] [] .done .nil (.mk none [] [] .done (.mk none [] [] .done .nil (.mk (some [.tmp 5 (.leaf (.int .i64))]) [] [0, 3, 4] .done .nil .nil)) .nil)) .nil)) .nil) .nil) (.mk none [] [] .done (.mk none [] [] .done .nil (.mk (some [.tmp 3 (.leaf (.str))]) [] [] .done .nil .nil)) .nil))))))

theorem is_winnowref15_Decimal (v1 : Int) (K : List UInt8 → World → Prop) (w : World) : WF Tryd.prog CS Tryd.f15 N_winnowref15_Decimal (.one (.leaf (.str))) [.leaf (.int .i64 v1)] K w = S_winnowref15_Decimal v1 K w := by kernel_rfl
theorem go_winnowref15_Decimal (v1 : Int) (K : List UInt8 → World → Prop) (w : World) (h : S_winnowref15_Decimal v1 K w) : callK Tryd.prog 15 [.leaf (.int .i64 v1)] w (.one (.leaf (.str))) K := by
  refine WF_sound (n := N_winnowref15_Decimal) CS_ok mixed Tryd.func15 ?_
  rw [is_winnowref15_Decimal]
  exact h


end Go.Proofs.YtjldecomhpngmaaDoor
