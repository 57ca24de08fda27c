/- Readings: StoreScripts, the reference. -/
import Derived.Test.YtjldecomhpngmaaS0
namespace Go.Proofs.Ytjldecomhpngmaa
open Go.Vw
-- 8 winnow/winnowlaw5.StoreScripts
def S_winnowlaw5_StoreScripts (script1 : Sl) (K : Bool → World → Prop) (w : World) : Prop :=
  callK Try.prog 10 [] w (.one (.leaf (.ptr))) fun p2 w_3 =>
  ifK p2.isNone
  (K false w_3)
  (callK Try.prog 26 [] w_3 (.one (.leaf (.ptr))) fun p4 w_5 =>
    al w_5 68 [.ptr p2, .ptr p4, .sl (⟨none, 0, 0⟩), .sl (⟨none, 0, 0⟩), .sl (⟨none, 0, 0⟩), .sl (⟨none, 0, 0⟩)] fun b6 w_7 =>
    joinK [] (fun k8 =>
      loopL [.int .i64] (fun i10 w_11 again9 =>
        ifK (decide (i10 < (script1.len : Int)))
        (ix script1 6 i10 fun b12 o13 =>
          ld w_11 (.int .i64) b12 o13 fun n14 =>
          ld w_11 .str b12 (o13 + 1) fun s15 =>
          ld w_11 (.int .i64) b12 (o13 + 2) fun n16 =>
          ld w_11 (.int .i64) b12 (o13 + 3) fun n17 =>
          ld w_11 .sl b12 (o13 + 4) fun a18 =>
          ld w_11 (.int .u32) b12 (o13 + 5) fun n19 =>
          callK Try.prog 25 [.leaf (.ptr (some (b6, 0))), .agg [.int .i64 n14, .str s15, .int .i64 n16, .int .i64 n17, .sl a18, .int .u32 n19]] w_11 (.one (.leaf (.bool))) fun c20 w_21 =>
          joinK [.bool] (fun k22 =>
            ifK (!c20)
            (k22 true w_21)
            (callK Try.prog 27 [.leaf (.ptr (some (b6, 0)))] w_21 (.one (.leaf (.bool))) fun c23 w_24 =>
              k22 (!c23) w_24)) fun t3225 w_26 =>
          ifK t3225
          (K false w_26)
          (again9 (w64 (i10 + 1)) w_26))
        (k8 w_11)) [.int .i64 0] w_7) fun w_27 =>
    joinK [.bool] (fun k28 =>
      callK Try.prog 28 [.leaf (.ptr (some (b6, 0)))] w_27 (.one (.leaf (.bool))) fun c29 w_30 =>
      ifK c29
      (callK Try.prog 27 [.leaf (.ptr (some (b6, 0)))] w_30 (.one (.leaf (.bool))) fun c31 w_32 =>
        k28 c31 w_32)
      (k28 false w_30)) fun t233 w_34 =>
    K t233 w_34)

def N_winnowlaw5_StoreScripts : Ann := (.mk none [] [] .done .nil (.mk none [] [] .done .nil (.mk none [] [] .done .nil (.mk none [] [] .done .nil (.mk none [] [] .done (.mk none [] [] .done .nil (.mk (some []) [] [4] .done (.mk none [.tmp 5 (.leaf (.int .i64))] [0, 4] .done (.mk none [] [] .done .nil (.mk none [] [] .done (.mk none [] [] .done (.mk none [] [] .done .nil (.mk none [] [] .done (.mk (some [.tmp 32 (.leaf (.bool))]) [] [0, 4, 5] .done .nil .nil) .nil)) .nil) .nil)) .nil) .nil)) (.mk none [] [] .done (.mk (some [.tmp 2 (.leaf (.bool))]) [] [] .done .nil .nil) .nil))))))

theorem is_winnowlaw5_StoreScripts (script1 : Sl) (K : Bool → World → Prop) (w : World) : WF Try.prog CS Try.f8 N_winnowlaw5_StoreScripts (.one (.leaf (.bool))) [.leaf (.sl script1)] K w = S_winnowlaw5_StoreScripts script1 K w := by kernel_rfl
theorem go_winnowlaw5_StoreScripts (script1 : Sl) (K : Bool → World → Prop) (w : World) (h : S_winnowlaw5_StoreScripts script1 K w) : callK Try.prog 8 [.leaf (.sl script1)] w (.one (.leaf (.bool))) K := by
  refine WF_sound (n := N_winnowlaw5_StoreScripts) CS_ok mixed Try.func8 ?_
  rw [is_winnowlaw5_StoreScripts]
  exact h

-- 26 winnow/winnowref5.New
def S_winnowref5_New  (K : PA → World → Prop) (w : World) : Prop :=
  al w 98 [.sl (⟨none, 0, 0⟩), .int .i64 0, .int .i64 0, .int .i64 0] fun b1 w_2 =>
  K (some (b1, 0)) w_2

def N_winnowref5_New : Ann := .nil

theorem is_winnowref5_New  (K : PA → World → Prop) (w : World) : WF Try.prog CS Try.f26 N_winnowref5_New (.one (.leaf (.ptr))) [] K w = S_winnowref5_New  K w := by kernel_rfl
theorem go_winnowref5_New  (K : PA → World → Prop) (w : World) (h : S_winnowref5_New  K w) : callK Try.prog 26 [] w (.one (.leaf (.ptr))) K := by
  refine WF_sound (n := N_winnowref5_New) CS_ok mixed Try.func26 ?_
  rw [is_winnowref5_New]
  exact h

-- 27 (*winnow/winnowlaw5.World).stands
def S_winnowlaw5_World_stands (w_1 : PA) (K : Bool → World → Prop) (w : World) : Prop :=
  joinK [] (fun k2 =>
    loopL [.int .i64] (fun n4 w_5 again3 =>
      dr w_1 fun b6 o7 =>
      ld w_5 .sl b6 (o7 + 2) fun a8 =>
      ifK (decide (n4 < (a8.len : Int)))
      (joinK [] (fun k9 =>
          loopL [.int .i64] (fun i11 w_12 again10 =>
            dr w_1 fun b13 o14 =>
            ld w_12 .sl b13 (o14 + 2) fun a15 =>
            ix a15 1 n4 fun b16 o17 =>
            ld w_12 .sl b16 o17 fun a18 =>
            ifK (decide (i11 < (a18.len : Int)))
            (dr w_1 fun b19 o20 =>
              ld w_12 .sl b19 (o20 + 2) fun a21 =>
              ix a21 1 n4 fun b22 o23 =>
              ld w_12 .sl b22 o23 fun a24 =>
              ix a24 1 i11 fun b25 o26 =>
              ld w_12 (.int .u8) b25 o26 fun n27 =>
              ifK (n27 != (IntKind.wrap .u8 (n4.tmod 199)))
              (K false w_12)
              (again10 (w64 (i11 + 1)) w_12))
            (k9 w_12)) [.int .i64 0] w_5) fun w_28 =>
        dr w_1 fun b29 o30 =>
        ld w_28 .sl b29 (o30 + 2) fun a31 =>
        ix a31 1 n4 fun b32 o33 =>
        ld w_28 .sl b32 o33 fun a34 =>
        joinK [] (fun k35 =>
          loopL [.int .i64] (fun i37 w_38 again36 =>
            dr w_1 fun b39 o40 =>
            ld w_38 .sl b39 (o40 + 4) fun a41 =>
            ix a41 1 n4 fun b42 o43 =>
            ld w_38 .sl b42 o43 fun a44 =>
            ifK (decide (i37 < (a44.len : Int)))
            (dr w_1 fun b45 o46 =>
              ld w_38 .sl b45 (o46 + 4) fun a47 =>
              ix a47 1 n4 fun b48 o49 =>
              ld w_38 .sl b48 o49 fun a50 =>
              ix a50 1 i37 fun b51 o52 =>
              ld w_38 (.int .u8) b51 o52 fun n53 =>
              ifK (n53 != (IntKind.wrap .u8 (w64 (200 + (n4.tmod 55)))))
              (K false w_38)
              (again36 (w64 (i37 + 1)) w_38))
            (k35 w_38)) [.int .i64 (a34.len : Int)] w_28) fun w_54 =>
        again3 (w64 (n4 + 1)) w_54)
      (k2 w_5)) [.int .i64 0] w) fun w_55 =>
  joinK [] (fun k56 =>
    loopL [.int .i64] (fun n58 w_59 again57 =>
      dr w_1 fun b60 o61 =>
      ld w_59 .sl b60 (o61 + 3) fun a62 =>
      ifK (decide (n58 < (a62.len : Int)))
      (joinK [] (fun k63 =>
          loopL [.int .i64] (fun i65 w_66 again64 =>
            dr w_1 fun b67 o68 =>
            ld w_66 .sl b67 (o68 + 3) fun a69 =>
            ix a69 1 n58 fun b70 o71 =>
            ld w_66 .sl b70 o71 fun a72 =>
            ifK (decide (i65 < (a72.len : Int)))
            (dr w_1 fun b73 o74 =>
              ld w_66 .sl b73 (o74 + 3) fun a75 =>
              ix a75 1 n58 fun b76 o77 =>
              ld w_66 .sl b76 o77 fun a78 =>
              ix a78 3 i65 fun b79 o80 =>
              ld w_66 .str b79 o80 fun s81 =>
              ld w_66 (.int .i64) b79 (o80 + 1) fun n82 =>
              ld w_66 (.int .i64) b79 (o80 + 2) fun n83 =>
              opF Try.prog (vS (do eqGuard .neq 59 (.tmp 109) (.tmp 111) (.agg #[(LV.toV (.str s81)), (LV.toV (.int .i64 n82)), (LV.toV (.int .i64 n83))]) (.agg #[(LV.toV (.str [109, 97, 114, 107, 101, 100])), (LV.toV (.int .i64 0)), (LV.toV (.int .i64 n58))]); binOp .neq 59 (.agg #[(LV.toV (.str s81)), (LV.toV (.int .i64 n82)), (LV.toV (.int .i64 n83))]) (.agg #[(LV.toV (.str [109, 97, 114, 107, 101, 100])), (LV.toV (.int .i64 0)), (LV.toV (.int .i64 n58))]))) w_66 (.one (.leaf (.bool))) fun c85 w_84 =>
              ifK c85
              (K false w_84)
              (again64 (w64 (i65 + 1)) w_84))
            (k63 w_66)) [.int .i64 0] w_59) fun w_86 =>
        dr w_1 fun b87 o88 =>
        ld w_86 .sl b87 (o88 + 3) fun a89 =>
        ix a89 1 n58 fun b90 o91 =>
        ld w_86 .sl b90 o91 fun a92 =>
        joinK [] (fun k93 =>
          loopL [.int .i64] (fun i95 w_96 again94 =>
            dr w_1 fun b97 o98 =>
            ld w_96 .sl b97 (o98 + 5) fun a99 =>
            ix a99 1 n58 fun b100 o101 =>
            ld w_96 .sl b100 o101 fun a102 =>
            ifK (decide (i95 < (a102.len : Int)))
            (dr w_1 fun b103 o104 =>
              ld w_96 .sl b103 (o104 + 5) fun a105 =>
              ix a105 1 n58 fun b106 o107 =>
              ld w_96 .sl b106 o107 fun a108 =>
              ix a108 3 i95 fun b109 o110 =>
              ld w_96 .str b109 o110 fun s111 =>
              ld w_96 (.int .i64) b109 (o110 + 1) fun n112 =>
              ld w_96 (.int .i64) b109 (o110 + 2) fun n113 =>
              opF Try.prog (vS (do eqGuard .neq 59 (.tmp 142) (.tmp 146) (.agg #[(LV.toV (.str s111)), (LV.toV (.int .i64 n112)), (LV.toV (.int .i64 n113))]) (.agg #[(LV.toV (.str [])), (LV.toV (.int .i64 0)), (LV.toV (.int .i64 (w64 ((w64 (0 - n58)) - 1))))]); binOp .neq 59 (.agg #[(LV.toV (.str s111)), (LV.toV (.int .i64 n112)), (LV.toV (.int .i64 n113))]) (.agg #[(LV.toV (.str [])), (LV.toV (.int .i64 0)), (LV.toV (.int .i64 (w64 ((w64 (0 - n58)) - 1))))]))) w_96 (.one (.leaf (.bool))) fun c115 w_114 =>
              ifK c115
              (K false w_114)
              (again94 (w64 (i95 + 1)) w_114))
            (k93 w_96)) [.int .i64 (a92.len : Int)] w_86) fun w_116 =>
        again57 (w64 (n58 + 1)) w_116)
      (k56 w_59)) [.int .i64 0] w_55) fun w_117 =>
  K true w_117

def N_winnowlaw5_World_stands : Ann := (.mk none [] [] .done .nil (.mk none [] [] .done (.mk none [] [] .done .nil (.mk (some []) [] [0] .done (.mk none [.tmp 3 (.leaf (.int .i64))] [0] .done (.mk none [] [] .done .nil (.mk none [] [] .done (.mk none [] [] .done (.mk none [] [] .done (.mk none [] [] .done .nil (.mk (some []) [] [0, 3] .done (.mk none [.tmp 4 (.leaf (.int .i64))] [0, 3] .done .nil .nil) .nil)) (.mk none [] [] .done .nil (.mk (some []) [] [0, 3] .done (.mk none [.tmp 5 (.leaf (.int .i64))] [0, 3] .done .nil .nil) .nil))) .nil) .nil)) .nil) .nil)) (.mk none [] [] .done (.mk none [] [] .done .nil (.mk (some []) [] [] .done (.mk none [.tmp 6 (.leaf (.int .i64))] [0] .done (.mk none [] [] .done .nil (.mk none [] [] .done (.mk none [] [] .done (.mk none [] [] .done (.mk none [] [] .done .nil (.mk (some []) [] [0, 6] .done (.mk none [.tmp 7 (.leaf (.int .i64))] [0, 6] .done .nil .nil) .nil)) (.mk none [] [] .done .nil (.mk (some []) [] [0, 6] .done (.mk none [.tmp 8 (.leaf (.int .i64))] [0, 6] .done .nil .nil) .nil))) .nil) .nil)) .nil) .nil)) .nil)))

theorem is_winnowlaw5_World_stands (w_1 : PA) (K : Bool → World → Prop) (w : World) : WF Try.prog CS Try.f27 N_winnowlaw5_World_stands (.one (.leaf (.bool))) [.leaf (.ptr w_1)] K w = S_winnowlaw5_World_stands w_1 K w := by kernel_rfl
theorem go_winnowlaw5_World_stands (w_1 : PA) (K : Bool → World → Prop) (w : World) (h : S_winnowlaw5_World_stands w_1 K w) : callK Try.prog 27 [.leaf (.ptr w_1)] w (.one (.leaf (.bool))) K := by
  refine WF_sound (n := N_winnowlaw5_World_stands) CS_ok mixed Try.func27 ?_
  rw [is_winnowlaw5_World_stands]
  exact h

-- 28 (*winnow/winnowlaw5.World).whole
def S_winnowlaw5_World_whole (w_1 : PA) (K : Bool → World → Prop) (w : World) : Prop :=
  drawK w fun D w_2 =>
  dr w_1 fun b3 o4 =>
  ldD D w_2 .ptr b3 o4 fun p5 =>
  dr w_1 fun b6 o7 =>
  ldD D w_2 .ptr b6 (o7 + 1) fun p8 =>
  callK Try.prog 16 [.leaf (.ptr p5)] w_2 (.one (.agg [.int .i64, .int .i64, .int .i64])) fun n9 n10 n11 w_12 =>
  Mod D w_2 w_12 ∧
  callK Try.prog 54 [.leaf (.ptr p8)] w_12 (.one (.agg [.int .i64, .int .i64, .int .i64])) fun n13 n14 n15 w_16 =>
  Mod D w_2 w_16 ∧
  opF Try.prog (vS (do eqGuard .neq 31 (.tmp 13) (.tmp 18) (.agg #[(LV.toV (.int .i64 n9)), (LV.toV (.int .i64 n10)), (LV.toV (.int .i64 n11))]) (.agg #[(LV.toV (.int .i64 n13)), (LV.toV (.int .i64 n14)), (LV.toV (.int .i64 n15))]); binOp .neq 31 (.agg #[(LV.toV (.int .i64 n9)), (LV.toV (.int .i64 n10)), (LV.toV (.int .i64 n11))]) (.agg #[(LV.toV (.int .i64 n13)), (LV.toV (.int .i64 n14)), (LV.toV (.int .i64 n15))]))) w_16 (.one (.leaf (.bool))) fun c18 w_17 =>
  Mod D w_2 w_17 ∧
  ifK c18
  (K false w_17)
  (dr w_1 fun b19 o20 =>
    ld w_17 .ptr b19 (o20 + 1) fun p21 =>
    callK Try.prog 48 [.leaf (.ptr p21), .leaf (.str [])] w_17 (.one (.leaf (.sl))) fun a22 w_23 =>
    dr w_1 fun b24 o25 =>
    ld w_23 .ptr b24 o25 fun p26 =>
    callK Try.prog 24 [.leaf (.ptr p26), .leaf (.str [])] w_23 (.one (.leaf (.sl))) fun a27 w_28 =>
    callK Try.prog 49 [.leaf (.sl a27), .leaf (.sl a22)] w_28 (.one (.leaf (.bool))) fun c29 w_30 =>
    ifK (!c29)
    (K false w_30)
    (joinK [] (fun k31 =>
        loopL [.int .i64] (fun i33 w_34 again32 =>
          ifK (decide (i33 < (a22.len : Int)))
          (drawK w_34 fun D w_35 =>
            dr w_1 fun b36 o37 =>
            ldD D w_35 .ptr b36 o37 fun p38 =>
            ix a22 3 i33 fun b39 o40 =>
            ldD D w_35 .str b39 o40 fun s41 =>
            ix a22 3 i33 fun b42 o43 =>
            ldD D w_35 (.int .i64) b42 (o43 + 2) fun n44 =>
            callK Try.prog 14 [.leaf (.ptr p38), .leaf (.str s41), .leaf (.int .i64 0), .leaf (.int .i64 (w64 (n44 + 1)))] w_35 (.tup [.leaf (.sl), .leaf (.int .i64)]) fun a45 n46 w_47 =>
            Mod D w_35 w_47 ∧
            drawK w_47 fun D w_48 =>
            dr w_1 fun b49 o50 =>
            ldD D w_48 .ptr b49 (o50 + 1) fun p51 =>
            ix a22 3 i33 fun b52 o53 =>
            ldD D w_48 .str b52 o53 fun s54 =>
            ix a22 3 i33 fun b55 o56 =>
            ldD D w_48 (.int .i64) b55 (o56 + 2) fun n57 =>
            callK Try.prog 43 [.leaf (.ptr p51), .leaf (.str s54), .leaf (.int .i64 0), .leaf (.int .i64 (w64 (n57 + 1)))] w_48 (.tup [.leaf (.sl), .leaf (.int .i64)]) fun a58 n59 w_60 =>
            Mod D w_48 w_60 ∧
            joinK [.bool] (fun k61 =>
              ifK (n46 != n59)
              (k61 true w_60)
              (callK Try.prog 15 [.leaf (.sl a45), .leaf (.sl a58)] w_60 (.one (.leaf (.bool))) fun c62 w_63 =>
                k61 (!c62) w_63)) fun t8564 w_65 =>
            ifK t8564
            (K false w_65)
            (again32 (w64 (i33 + 1)) w_65))
          (k31 w_34)) [.int .i64 0] w_30) fun w_66 =>
      K true w_66))

def N_winnowlaw5_World_whole : Ann := (.mk none [] [] .done .nil (.mk none [] [] .done (.mk none [] [] .done (.mk none [] [] (.take 0 (.take 1 (.take 2 (.take 3 (.take 5 (.take 6 (.take 7 (.take 8 (.eff 4 (.eff 9 (.eff 10 .done))))))))))) .nil .nil) .nil) (.mk none [] [] .done .nil (.mk none [] [] .done .nil (.mk none [] [] .done (.mk none [] [] .done .nil (.mk (some []) [] [] .done (.mk none [.tmp 4 (.leaf (.int .i64))] [0, 3] .done (.mk none [] [] .done .nil (.mk none [] [] .done (.mk none [] [] .done (.mk none [] [] .done (.mk none [] [] (.take 0 (.take 1 (.take 2 (.take 3 (.take 4 (.take 5 (.take 6 (.take 7 (.take 8 (.take 9 (.take 10 (.take 11 (.take 12 (.take 13 (.take 14 (.eff 15 (.take 16 (.take 17 (.take 18 (.take 19 (.take 20 .done))))))))))))))))))))) .nil .nil) (.mk none [] [] .done (.mk none [] [] (.take 0 (.take 1 (.take 2 (.take 3 (.take 4 (.take 5 (.take 6 (.take 7 (.take 8 (.take 9 (.take 10 (.take 11 (.take 12 (.take 13 (.take 14 (.eff 15 (.take 16 (.take 17 (.take 18 (.take 19 (.take 20 .done))))))))))))))))))))) .nil .nil) (.mk none [] [] .done (.mk (some [.tmp 85 (.leaf (.bool))]) [] [0, 3, 4] .done .nil .nil) .nil))) .nil) .nil)) .nil) .nil)) .nil)))))

theorem is_winnowlaw5_World_whole (w_1 : PA) (K : Bool → World → Prop) (w : World) : WF Try.prog CS Try.f28 N_winnowlaw5_World_whole (.one (.leaf (.bool))) [.leaf (.ptr w_1)] K w = S_winnowlaw5_World_whole w_1 K w := by kernel_rfl
theorem go_winnowlaw5_World_whole (w_1 : PA) (K : Bool → World → Prop) (w : World) (h : S_winnowlaw5_World_whole w_1 K w) : callK Try.prog 28 [.leaf (.ptr w_1)] w (.one (.leaf (.bool))) K := by
  refine WF_sound (n := N_winnowlaw5_World_whole) CS_ok mixed Try.func28 ?_
  rw [is_winnowlaw5_World_whole]
  exact h

-- 63 winnow/winnowref5.turned
def S_winnowref5_turned (b1 : Int) (bit2 : Int) (K : Int → World → Prop) (w : World) : Prop :=
  joinK [.int .u8] (fun k3 =>
    loopL [.int .u8, .int .i64] (fun unit5 k6 w_7 again4 =>
      ifK (decide (k6 < bit2))
      (again4 (IntKind.wrap .u8 (unit5 * 2)) (w64 (k6 + 1)) w_7)
      (k3 unit5 w_7)) [.int .u8 1, .int .i64 0] w) fun unit8 w_9 =>
  unit8 ≠ 0 ∧
  ifK (((IntKind.wrap .u8 (b1.tdiv unit8)).tmod 2) == 0)
  (K (IntKind.wrap .u8 (b1 + unit8)) w_9)
  (K (IntKind.wrap .u8 (b1 - unit8)) w_9)

def N_winnowref5_turned : Ann := (.mk none [] [] .done .nil (.mk none [] [] .done .nil (.mk none [] [] .done (.mk none [] [] .done .nil (.mk (some [.tmp 5 (.leaf (.int .u8))]) [] [0] .done (.mk none [.tmp 5 (.leaf (.int .u8)), .tmp 6 (.leaf (.int .i64))] [0, 1] .done .nil .nil) .nil)) .nil)))

theorem is_winnowref5_turned (b1 : Int) (bit2 : Int) (K : Int → World → Prop) (w : World) : WF Try.prog CS Try.f63 N_winnowref5_turned (.one (.leaf (.int .u8))) [.leaf (.int .u8 b1), .leaf (.int .i64 bit2)] K w = S_winnowref5_turned b1 bit2 K w := by kernel_rfl
theorem go_winnowref5_turned (b1 : Int) (bit2 : Int) (K : Int → World → Prop) (w : World) (h : S_winnowref5_turned b1 bit2 K w) : callK Try.prog 63 [.leaf (.int .u8 b1), .leaf (.int .i64 bit2)] w (.one (.leaf (.int .u8))) K := by
  refine WF_sound (n := N_winnowref5_turned) CS_ok mixed Try.func63 ?_
  rw [is_winnowref5_turned]
  exact h

-- 83 winnow/winnowref5.good
def S_winnowref5_good (name1 : List UInt8) (K : Bool → World → Prop) (w : World) : Prop :=
  joinK [] (fun k2 =>
    loopL [.int .i64] (fun i4 w_5 again3 =>
      ifK (decide (i4 < (name1.length : Int)))
      (sx name1 i4 fun c6 =>
        joinK [.bool] (fun k7 =>
          ifK (decide (c6 < 97))
          (ifK (decide (c6 < 48))
            (ifK (c6 != 46)
              (k7 (c6 != 45) w_5)
              (k7 false w_5))
            (ifK (decide (57 < c6))
              (ifK (c6 != 46)
                (k7 (c6 != 45) w_5)
                (k7 false w_5))
              (k7 false w_5)))
          (ifK (decide (122 < c6))
            (ifK (decide (c6 < 48))
              (ifK (c6 != 46)
                (k7 (c6 != 45) w_5)
                (k7 false w_5))
              (ifK (decide (57 < c6))
                (ifK (c6 != 46)
                  (k7 (c6 != 45) w_5)
                  (k7 false w_5))
                (k7 false w_5)))
            (k7 false w_5))) fun t358 w_9 =>
        ifK t358
        (K false w_9)
        (again3 (w64 (i4 + 1)) w_9))
      (k2 w_5)) [.int .i64 0] w) fun w_10 =>
  joinK [.bool] (fun k11 =>
    ifK (decide (1 ≤ (name1.length : Int)))
    (k11 (decide ((name1.length : Int) ≤ 40)) w_10)
    (k11 false w_10)) fun t212 w_13 =>
  K t212 w_13

def N_winnowref5_good : Ann := (.mk none [] [] .done .nil (.mk none [] [] .done (.mk none [] [] .done .nil (.mk (some []) [] [0] .done (.mk none [.tmp 3 (.leaf (.int .i64))] [0] .done (.mk none [] [] .done .nil (.mk none [] [] .done (.mk none [] [] .done (.mk none [] [] .done .nil (.mk none [] [] .done (.mk (some [.tmp 35 (.leaf (.bool))]) [] [0, 3] .done .nil .nil) .nil)) .nil) .nil)) .nil) .nil)) (.mk none [] [] .done (.mk (some [.tmp 2 (.leaf (.bool))]) [] [] .done .nil .nil) .nil)))

theorem is_winnowref5_good (name1 : List UInt8) (K : Bool → World → Prop) (w : World) : WF Try.prog CS Try.f83 N_winnowref5_good (.one (.leaf (.bool))) [.leaf (.str name1)] K w = S_winnowref5_good name1 K w := by kernel_rfl
theorem go_winnowref5_good (name1 : List UInt8) (K : Bool → World → Prop) (w : World) (h : S_winnowref5_good name1 K w) : callK Try.prog 83 [.leaf (.str name1)] w (.one (.leaf (.bool))) K := by
  refine WF_sound (n := N_winnowref5_good) CS_ok mixed Try.func83 ?_
  rw [is_winnowref5_good]
  exact h

-- 84 (*winnow/winnowref5.Store).find
def S_winnowref5_Store_find (s1 : PA) (name2 : List UInt8) (K : Int → World → Prop) (w : World) : Prop :=
  joinK [] (fun k3 =>
    loopL [.int .i64] (fun i5 w_6 again4 =>
      dr s1 fun b7 o8 =>
      ld w_6 .sl b7 o8 fun a9 =>
      ifK (decide (i5 < (a9.len : Int)))
      (dr s1 fun b10 o11 =>
        ld w_6 .sl b10 o11 fun a12 =>
        ix a12 6 i5 fun b13 o14 =>
        ld w_6 .str b13 o14 fun s15 =>
        ifK (s15 == name2)
        (K i5 w_6)
        (again4 (w64 (i5 + 1)) w_6))
      (k3 w_6)) [.int .i64 0] w) fun w_16 =>
  K (-1) w_16

def N_winnowref5_Store_find : Ann := (.mk none [] [] .done .nil (.mk none [] [] .done (.mk none [] [] .done .nil (.mk (some []) [] [] .done (.mk none [.tmp 5 (.leaf (.int .i64))] [0, 1] .done .nil .nil) .nil)) .nil))

theorem is_winnowref5_Store_find (s1 : PA) (name2 : List UInt8) (K : Int → World → Prop) (w : World) : WF Try.prog CS Try.f84 N_winnowref5_Store_find (.one (.leaf (.int .i64))) [.leaf (.ptr s1), .leaf (.str name2)] K w = S_winnowref5_Store_find s1 name2 K w := by kernel_rfl
theorem go_winnowref5_Store_find (s1 : PA) (name2 : List UInt8) (K : Int → World → Prop) (w : World) (h : S_winnowref5_Store_find s1 name2 K w) : callK Try.prog 84 [.leaf (.ptr s1), .leaf (.str name2)] w (.one (.leaf (.int .i64))) K := by
  refine WF_sound (n := N_winnowref5_Store_find) CS_ok mixed Try.func84 ?_
  rw [is_winnowref5_Store_find]
  exact h


end Go.Proofs.Ytjldecomhpngmaa
