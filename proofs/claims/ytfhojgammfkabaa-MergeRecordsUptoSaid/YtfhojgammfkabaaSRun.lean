/- The typed reading of the run of a merge, of head, of sources made tidy, of the look at what is stable. -/
import Derived.Test.YtfhojgammfkabaaS0
namespace Go.Proofs.Ytfhojgammfkabaa
open Go.Vw
-- 18 winnow/winnowlaw11.tidy
def S_winnowlaw11_tidy (from_1 : Sl) (K : Sl → World → Prop) (w : World) : Prop :=
  joinK [.sl] (fun k2 =>
    loopL [.sl, .int .i64, .int .i64] (fun out4 name5 i6 w_7 again3 =>
      joinK [.bool] (fun k8 =>
        ifK (decide (i6 < (from_1.len : Int)))
        (k8 (decide (i6 < 64)) w_7)
        (k8 false w_7)) fun t189 w_10 =>
      ifK t189
      (joinK [.sl] (fun k11 =>
          loopL [.sl, .int .i64] (fun l13 k14 w_15 again12 =>
            ix from_1 2 i6 fun b16 o17 =>
            ld w_15 .sl b16 o17 fun a18 =>
            ifK (decide (k14 < (a18.len : Int)))
            (joinK [.int .i64] (fun k19 =>
                loopL [.int .i64] (fun n21 w_22 again20 =>
                  joinK [.bool] (fun k23 =>
                    drawK w_22 fun D w_24 =>
                    ifK (decide (0 < n21))
                    (ix l13 2 (w64 (n21 - 1)) fun b25 o26 =>
                      ldD D w_24 (.int .i64) b25 o26 fun n27 =>
                      ix from_1 2 i6 fun b28 o29 =>
                      ldD D w_24 .sl b28 o29 fun a30 =>
                      ix a30 2 k14 fun b31 o32 =>
                      ldD D w_24 (.int .i64) b31 o32 fun n33 =>
                      k23 (decide (n33 < n27)) w_24)
                    (k23 false w_24)) fun t5234 w_35 =>
                  ifK t5234
                  (again20 (w64 (n21 - 1)) w_35)
                  (k19 n21 w_35)) [.int .i64 (l13.len : Int)] w_15) fun n36 w_37 =>
              slx l13 2 none (some n36) none fun s38 =>
              ap w_37 55 2 16 [.int .i64 0, .int .i64 0] (⟨none, 0, 0⟩) s38 fun a39 w_40 =>
              ix from_1 2 i6 fun b41 o42 =>
              ld w_40 .sl b41 o42 fun a43 =>
              ix a43 2 k14 fun b44 o45 =>
              ld w_40 (.int .i64) b44 o45 fun n46 =>
              ld w_40 (.int .i64) b44 (o45 + 1) fun n47 =>
              al w_40 55 [.int .i64 n46, .int .i64 n47] fun b48 w_49 =>
              ap w_49 55 2 16 [.int .i64 0, .int .i64 0] a39 (⟨some (b48, 0), 1, 1⟩) fun a50 w_51 =>
              slx l13 2 (some n36) none none fun s52 =>
              ap w_51 55 2 16 [.int .i64 0, .int .i64 0] a50 s52 fun a53 w_54 =>
              again12 a53 (w64 (k14 + 1)) w_54)
            (k11 l13 w_15)) [.sl (⟨none, 0, 0⟩), .int .i64 0] w_10) fun l55 w_56 =>
        joinK [.int .i64] (fun k57 =>
          loopL [.int .i64, .int .i64] (fun name59 k60 w_61 again58 =>
            ifK (decide (k60 < (l55.len : Int)))
            (ix l55 2 k60 fun b62 o63 =>
              st w_61 b62 (o63 + 1) [.int .i64 name59] fun w_64 =>
              again58 (w64 (name59 + 1)) (w64 (k60 + 1)) w_64)
            (k57 name59 w_61)) [.int .i64 name5, .int .i64 0] w_56) fun name65 w_66 =>
        al w_66 53 [.sl l55, .int .i64 0] fun b67 w_68 =>
        ap w_68 53 2 32 [.sl (⟨none, 0, 0⟩), .int .i64 0] out4 (⟨some (b67, 0), 1, 1⟩) fun a69 w_70 =>
        again3 a69 name65 (w64 (i6 + 1)) w_70)
      (k2 out4 w_10)) [.sl (⟨none, 0, 0⟩), .int .i64 0, .int .i64 0] w) fun out71 w_72 =>
  K out71 w_72

def N_winnowlaw11_tidy : Ann := (.mk none [] [] .done .nil (.mk none [] [] .done .nil (.mk none [] [] .done .nil (.mk none [] [] .done (.mk none [] [] .done .nil (.mk (some [.tmp 3 (.leaf (.sl))]) [] [] .done (.mk none [.tmp 3 (.leaf (.sl)), .tmp 4 (.leaf (.int .i64)), .tmp 5 (.leaf (.int .i64))] [0] .done (.mk none [] [] .done (.mk none [] [] .done (.mk (some [.tmp 18 (.leaf (.bool))]) [] [0, 3, 4, 5] .done .nil .nil) .nil) (.mk none [] [] .done (.mk none [] [] .done (.mk none [] [] .done .nil (.mk none [] [] .done (.mk none [] [] .done .nil (.mk (some [.tmp 6 (.leaf (.sl))]) [] [0, 3, 4, 5] .done (.mk none [.tmp 6 (.leaf (.sl)), .tmp 7 (.leaf (.int .i64))] [0, 3, 4, 5] .done (.mk none [] [] .done .nil (.mk none [] [] .done (.mk none [] [] .done (.mk none [] [] .done .nil (.mk none [] [] .done (.mk (some [.tmp 8 (.leaf (.int .i64))]) [] [0, 3, 4, 5, 6, 7] .done (.mk none [.tmp 8 (.leaf (.int .i64))] [0, 3, 4, 5, 6, 7] .done (.mk none [] [] .done (.mk none [] [] .done (.mk (some [.tmp 52 (.leaf (.bool))]) [] [0, 3, 4, 5, 6, 7, 8] (.take 0 (.take 1 (.take 2 (.split 2 (.take 3 (.take 4 (.take 5 (.take 6 (.take 7 (.take 8 (.take 9 (.take 10 (.take 11 (.take 12 (.take 13 (.take 14 (.take 15 (.take 16 (.take 17 (.take 18 (.take 19 .done))))))))))))))))) (.take 3 (.take 4 (.take 5 (.take 6 (.take 7 (.take 8 (.take 9 (.take 10 (.take 11 (.take 12 (.take 13 (.take 14 (.take 15 (.take 16 (.take 17 (.take 18 (.take 19 .done))))))))))))))))))))) .nil .nil) .nil) .nil) .nil) .nil) .nil)) .nil) .nil)) .nil) .nil)) (.mk none [] [] .done (.mk none [] [] .done .nil (.mk (some [.tmp 4 (.leaf (.int .i64))]) [] [0, 3, 5, 6] .done (.mk none [.tmp 4 (.leaf (.int .i64)), .tmp 10 (.leaf (.int .i64))] [0, 3, 5, 6] .done .nil .nil) .nil)) .nil))) .nil) .nil)) .nil) .nil)) .nil))))

theorem is_winnowlaw11_tidy (from_1 : Sl) (K : Sl → World → Prop) (w : World) : WF Try.prog CS Try.f18 N_winnowlaw11_tidy (.one (.leaf (.sl))) [.leaf (.sl from_1)] K w = S_winnowlaw11_tidy from_1 K w := by kernel_rfl
theorem go_winnowlaw11_tidy (from_1 : Sl) (K : Sl → World → Prop) (w : World) (h : S_winnowlaw11_tidy from_1 K w) : callK Try.prog 18 [.leaf (.sl from_1)] w (.one (.leaf (.sl))) K := by
  refine WF_sound (n := N_winnowlaw11_tidy) CS_ok mixed Try.func18 ?_
  rw [is_winnowlaw11_tidy]
  exact h

-- 19 winnow/winnowlaw11.run
def S_winnowlaw11_run (l1 : Sl) (K : Sl → Int → Bool → World → Prop) (w : World) : Prop :=
  callK Try.prog 23 [.leaf (.sl l1)] w (.tup [.leaf (.ptr), .leaf (.int .i64)]) fun p2 n3 w_4 =>
  joinK [.bool] (fun k5 =>
    ifK (n3 != 0)
    (k5 true w_4)
    (k5 p2.isNone w_4)) fun t246 w_7 =>
  ifK t246
  (K (⟨none, 0, 0⟩) n3 false w_7)
  (joinK [.int .i64] (fun k8 =>
      loopL [.int .i64, .int .i64] (fun most10 i11 w_12 again9 =>
        ifK (decide (i11 < (l1.len : Int)))
        (ix l1 1 i11 fun b13 o14 =>
          ld w_12 .ptr b13 o14 fun p15 =>
          dr p15 fun b16 o17 =>
          ld w_12 .sl b16 o17 fun a18 =>
          again9 (w64 (most10 + (a18.len : Int))) (w64 (i11 + 1)) w_12)
        (k8 most10 w_12)) [.int .i64 0, .int .i64 0] w_7) fun most19 w_20 =>
    joinK [] (fun k21 =>
      loopL [.sl, .int .i64] (fun out23 i24 w_25 again22 =>
        ifK (decide (i24 ≤ most19))
        (callK Try.prog 27 [.leaf (.ptr p2)] w_25 (.tup [.agg [.int .i64, .int .i64], .leaf (.bool), .leaf (.int .i64)]) fun n26 n27 c28 n29 w_30 =>
          al w_30 55 [.int .i64 0, .int .i64 0] fun b31 w_32 =>
          st w_32 b31 0 [.int .i64 n26, .int .i64 n27] fun w_33 =>
          ifK (!c28)
          (K out23 n29 true w_33)
          (ld w_33 (.int .i64) b31 0 fun n34 =>
            ld w_33 (.int .i64) b31 1 fun n35 =>
            al w_33 55 [.int .i64 n34, .int .i64 n35] fun b36 w_37 =>
            ap w_37 55 2 16 [.int .i64 0, .int .i64 0] out23 (⟨some (b36, 0), 1, 1⟩) fun a38 w_39 =>
            again22 a38 (w64 (i24 + 1)) w_39))
        (k21 w_25)) [.sl (⟨none, 0, 0⟩), .int .i64 0] w_20) fun w_40 =>
    K (⟨none, 0, 0⟩) 0 false w_40)

def N_winnowlaw11_run : Ann := (.mk none [] [] .done .nil (.mk none [] [] .done .nil (.mk none [] [] .done (.mk none [] [] .done (.mk (some [.tmp 24 (.leaf (.bool))]) [] [0, 5, 6] .done .nil .nil) .nil) (.mk none [] [] .done .nil (.mk none [] [] .done (.mk none [] [] .done .nil (.mk (some [.tmp 7 (.leaf (.int .i64))]) [] [5] .done (.mk none [.tmp 7 (.leaf (.int .i64)), .tmp 8 (.leaf (.int .i64))] [0, 5] .done .nil .nil) .nil)) (.mk none [] [] .done .nil (.mk none [] [] .done (.mk none [] [] .done .nil (.mk (some []) [] [] .done (.mk none [.tmp 9 (.leaf (.sl)), .tmp 10 (.leaf (.int .i64))] [5, 7] .done .nil .nil) .nil)) .nil)))))))

theorem is_winnowlaw11_run (l1 : Sl) (K : Sl → Int → Bool → World → Prop) (w : World) : WF Try.prog CS Try.f19 N_winnowlaw11_run (.tup [.leaf (.sl), .leaf (.int .i64), .leaf (.bool)]) [.leaf (.sl l1)] K w = S_winnowlaw11_run l1 K w := by kernel_rfl
theorem go_winnowlaw11_run (l1 : Sl) (K : Sl → Int → Bool → World → Prop) (w : World) (h : S_winnowlaw11_run l1 K w) : callK Try.prog 19 [.leaf (.sl l1)] w (.tup [.leaf (.sl), .leaf (.int .i64), .leaf (.bool)]) K := by
  refine WF_sound (n := N_winnowlaw11_run) CS_ok mixed Try.func19 ?_
  rw [is_winnowlaw11_run]
  exact h

-- 21 winnow/winnowlaw11.stable
def S_winnowlaw11_stable (l1 : Sl) (from_2 : Sl) (K : Bool → World → Prop) (w : World) : Prop :=
  joinK [.int .i64] (fun k3 =>
    loopL [.int .i64, .int .i64] (fun n5 i6 w_7 again4 =>
      ifK (decide (i6 < (from_2.len : Int)))
      (ix from_2 2 i6 fun b8 o9 =>
        ld w_7 .sl b8 o9 fun a10 =>
        again4 (w64 (n5 + (a10.len : Int))) (w64 (i6 + 1)) w_7)
      (k3 n5 w_7)) [.int .i64 0, .int .i64 0] w) fun n11 w_12 =>
  ifK ((l1.len : Int) != n11)
  (K false w_12)
  (mk w_12 4 1 [.lit false] n11 n11 fun a13 w_14 =>
    joinK [] (fun k15 =>
      loopL [.int .i64] (fun i17 w_18 again16 =>
        ifK (decide (i17 < (l1.len : Int)))
        (joinK [.bool] (fun k19 =>
            drawK w_18 fun D w_20 =>
            ifK (decide (0 < i17))
            (ix l1 2 (w64 (i17 - 1)) fun b21 o22 =>
              ldD D w_20 (.int .i64) b21 o22 fun n23 =>
              ix l1 2 i17 fun b24 o25 =>
              ldD D w_20 (.int .i64) b24 o25 fun n26 =>
              ifK (decide (n26 < n23))
              (k19 true w_20)
              (ix l1 2 (w64 (i17 - 1)) fun b27 o28 =>
                ldD D w_20 (.int .i64) b27 o28 fun n29 =>
                ix l1 2 i17 fun b30 o31 =>
                ldD D w_20 (.int .i64) b30 o31 fun n32 =>
                ifK (n29 == n32)
                (ix l1 2 (w64 (i17 - 1)) fun b33 o34 =>
                  ldD D w_20 (.int .i64) b33 (o34 + 1) fun n35 =>
                  ix l1 2 i17 fun b36 o37 =>
                  ldD D w_20 (.int .i64) b36 (o37 + 1) fun n38 =>
                  k19 (decide (n38 < n35)) w_20)
                (k19 false w_20)))
            (k19 false w_20)) fun t8339 w_40 =>
          ifK t8339
          (K false w_40)
          (joinK [.bool] (fun k41 =>
              ix l1 2 i17 fun b42 o43 =>
              ld w_40 (.int .i64) b42 (o43 + 1) fun n44 =>
              ifK (decide (n44 < 0))
              (k41 true w_40)
              (ix l1 2 i17 fun b45 o46 =>
                ld w_40 (.int .i64) b45 (o46 + 1) fun n47 =>
                ifK (decide (n11 ≤ n47))
                (k41 true w_40)
                (ix l1 2 i17 fun b48 o49 =>
                  ld w_40 (.int .i64) b48 (o49 + 1) fun n50 =>
                  ix a13 1 n50 fun b51 o52 =>
                  ld w_40 .bool b51 o52 fun c53 =>
                  k41 c53 w_40))) fun t10854 w_55 =>
            ifK t10854
            (K false w_55)
            (ix l1 2 i17 fun b56 o57 =>
              ld w_55 (.int .i64) b56 (o57 + 1) fun n58 =>
              ix a13 1 n58 fun b59 o60 =>
              st w_55 b59 o60 [.lit true] fun w_61 =>
              again16 (w64 (i17 + 1)) w_61)))
        (k15 w_18)) [.int .i64 0] w_14) fun w_62 =>
    joinK [.int .i64] (fun k63 =>
      loopL [.int .i64, .int .i64] (fun at_65 i66 w_67 again64 =>
        ifK (decide (i66 < (from_2.len : Int)))
        (joinK [.int .i64] (fun k68 =>
            loopL [.int .i64, .int .i64] (fun at_70 k71 w_72 again69 =>
              ix from_2 2 i66 fun b73 o74 =>
              ld w_72 .sl b73 o74 fun a75 =>
              ifK (decide (k71 < (a75.len : Int)))
              (joinK [.bool] (fun k76 =>
                  loopL [.bool, .int .i64] (fun found78 j79 w_80 again77 =>
                    joinK [.bool] (fun k81 =>
                      ifK (decide (j79 < (l1.len : Int)))
                      (k81 (!found78) w_80)
                      (k81 false w_80)) fun t13982 w_83 =>
                    ifK t13982
                    (drawK w_83 fun D w_84 =>
                      ix l1 2 j79 fun b85 o86 =>
                      ldD D w_84 (.int .i64) b85 o86 fun n87 =>
                      ldD D w_84 (.int .i64) b85 (o86 + 1) fun n88 =>
                      ix from_2 2 i66 fun b89 o90 =>
                      ldD D w_84 .sl b89 o90 fun a91 =>
                      ix a91 2 k71 fun b92 o93 =>
                      ldD D w_84 (.int .i64) b92 o93 fun n94 =>
                      ldD D w_84 (.int .i64) b92 (o93 + 1) fun n95 =>
                      opF Try.prog (vS (do eqGuard .eql 55 (.tmp 145) (.tmp 153) (.agg #[(LV.toV (.int .i64 n87)), (LV.toV (.int .i64 n88))]) (.agg #[(LV.toV (.int .i64 n94)), (LV.toV (.int .i64 n95))]); binOp .eql 55 (.agg #[(LV.toV (.int .i64 n87)), (LV.toV (.int .i64 n88))]) (.agg #[(LV.toV (.int .i64 n94)), (LV.toV (.int .i64 n95))]))) w_84 (.one (.leaf (.bool))) fun c97 w_96 =>
                      Mod D w_84 w_96 ∧
                      again77 c97 (w64 (j79 + 1)) w_96)
                    (k76 found78 w_83)) [.lit false, .int .i64 0] w_72) fun found98 w_99 =>
                ifK (!found98)
                (K false w_99)
                (again69 (w64 (at_70 + 1)) (w64 (k71 + 1)) w_99))
              (k68 at_70 w_72)) [.int .i64 at_65, .int .i64 0] w_67) fun at_100 w_101 =>
          again64 at_100 (w64 (i66 + 1)) w_101)
        (k63 at_65 w_67)) [.int .i64 0, .int .i64 0] w_62) fun at_102 w_103 =>
    K (at_102 == n11) w_103)

def N_winnowlaw11_stable : Ann := (.mk none [] [] .done .nil (.mk none [] [] .done .nil (.mk none [] [] .done (.mk none [] [] .done .nil (.mk (some [.tmp 5 (.leaf (.int .i64))]) [] [0, 1] .done (.mk none [.tmp 5 (.leaf (.int .i64)), .tmp 6 (.leaf (.int .i64))] [0, 1] .done .nil .nil) .nil)) (.mk none [] [] .done .nil (.mk none [] [] .done .nil (.mk none [] [] .done (.mk none [] [] .done .nil (.mk (some []) [] [0, 1, 5] .done (.mk none [.tmp 8 (.leaf (.int .i64))] [0, 1, 5, 7] .done (.mk none [] [] .done .nil (.mk none [] [] .done (.mk none [] [] .done (.mk none [] [] .done (.mk none [] [] .done (.mk (some [.tmp 83 (.leaf (.bool))]) [] [0, 1, 5, 7, 8] (.take 0 (.take 1 (.take 2 (.split 2 (.take 3 (.take 4 (.take 5 (.take 6 (.take 7 (.take 8 (.take 9 (.take 10 (.take 11 (.take 12 (.take 13 (.take 14 (.take 15 (.split 15 (.take 16 (.take 17 (.take 18 (.take 19 (.take 20 (.take 21 (.take 22 (.take 23 (.take 24 (.take 25 (.take 26 (.take 27 (.take 28 (.take 29 (.take 30 (.take 31 (.take 32 (.take 33 (.take 34 (.take 35 (.take 36 (.take 37 (.take 38 (.take 39 (.take 40 (.take 41 (.take 42 (.take 43 .done)))))))))))))))))))))))))))) (.take 16 (.take 17 (.take 18 (.take 19 (.take 20 (.take 21 (.take 22 (.take 23 (.take 24 (.take 25 (.take 26 (.take 27 (.take 28 (.split 28 (.take 29 (.take 30 (.take 31 (.take 32 (.take 33 (.take 34 (.take 35 (.take 36 (.take 37 (.take 38 (.take 39 (.take 40 (.take 41 (.take 42 (.take 43 .done))))))))))))))) (.take 29 (.take 30 (.take 31 (.take 32 (.take 33 (.take 34 (.take 35 (.take 36 (.take 37 (.take 38 (.take 39 (.take 40 (.take 41 (.take 42 (.take 43 .done))))))))))))))))))))))))))))))))))))))))))) (.take 3 (.take 4 (.take 5 (.take 6 (.take 7 (.take 8 (.take 9 (.take 10 (.take 11 (.take 12 (.take 13 (.take 14 (.take 15 (.take 16 (.take 17 (.take 18 (.take 19 (.take 20 (.take 21 (.take 22 (.take 23 (.take 24 (.take 25 (.take 26 (.take 27 (.take 28 (.take 29 (.take 30 (.take 31 (.take 32 (.take 33 (.take 34 (.take 35 (.take 36 (.take 37 (.take 38 (.take 39 (.take 40 (.take 41 (.take 42 (.take 43 .done))))))))))))))))))))))))))))))))))))))))))))) .nil .nil) .nil) (.mk none [] [] .done (.mk none [] [] .done (.mk (some [.tmp 108 (.leaf (.bool))]) [] [0, 1, 5, 7, 8] .done .nil .nil) .nil) .nil)) .nil) .nil)) .nil) .nil)) (.mk none [] [] .done .nil (.mk none [] [] .done (.mk none [] [] .done .nil (.mk (some [.tmp 9 (.leaf (.int .i64))]) [] [5] .done (.mk none [.tmp 9 (.leaf (.int .i64)), .tmp 10 (.leaf (.int .i64))] [0, 1, 5] .done (.mk none [] [] .done .nil (.mk none [] [] .done (.mk none [] [] .done (.mk none [] [] .done .nil (.mk (some [.tmp 9 (.leaf (.int .i64))]) [] [0, 1, 5, 10] .done (.mk none [.tmp 9 (.leaf (.int .i64)), .tmp 11 (.leaf (.int .i64))] [0, 1, 5, 10] .done (.mk none [] [] .done .nil (.mk none [] [] .done (.mk none [] [] .done (.mk none [] [] .done .nil (.mk none [] [] .done (.mk none [] [] .done .nil (.mk (some [.tmp 12 (.leaf (.bool))]) [] [0, 1, 5, 9, 10, 11] .done (.mk none [.tmp 12 (.leaf (.bool)), .tmp 13 (.leaf (.int .i64))] [0, 1, 5, 9, 10, 11] .done (.mk none [] [] .done (.mk none [] [] .done (.mk (some [.tmp 139 (.leaf (.bool))]) [] [0, 1, 5, 9, 10, 11, 12, 13] .done .nil .nil) .nil) (.mk none [] [] .done (.mk none [] [] .done (.mk none [] [] (.take 0 (.take 1 (.take 2 (.take 3 (.take 4 (.take 5 (.take 6 (.take 7 (.take 8 (.take 9 (.take 10 (.take 11 (.eff 12 (.take 13 .done)))))))))))))) .nil .nil) .nil) .nil)) .nil) .nil)) .nil)) .nil) .nil)) .nil) .nil)) .nil) .nil)) .nil) .nil)) .nil))))))))

theorem is_winnowlaw11_stable (l1 : Sl) (from_2 : Sl) (K : Bool → World → Prop) (w : World) : WF Try.prog CS Try.f21 N_winnowlaw11_stable (.one (.leaf (.bool))) [.leaf (.sl l1), .leaf (.sl from_2)] K w = S_winnowlaw11_stable l1 from_2 K w := by kernel_rfl
theorem go_winnowlaw11_stable (l1 : Sl) (from_2 : Sl) (K : Bool → World → Prop) (w : World) (h : S_winnowlaw11_stable l1 from_2 K w) : callK Try.prog 21 [.leaf (.sl l1), .leaf (.sl from_2)] w (.one (.leaf (.bool))) K := by
  refine WF_sound (n := N_winnowlaw11_stable) CS_ok mixed Try.func21 ?_
  rw [is_winnowlaw11_stable]
  exact h

-- 22 winnow/winnowlaw11.head
def S_winnowlaw11_head  (K : Bool → World → Prop) (w : World) : Prop :=
  al w 55 [.int .i64 1, .int .i64 1, .int .i64 4, .int .i64 2] fun b1 w_2 =>
  al w_2 53 [.sl (⟨none, 0, 0⟩), .int .i64 0] fun b3 w_4 =>
  st w_4 b3 0 [.sl (⟨some (b1, 0), 2, 2⟩), .int .i64 0] fun w_5 =>
  al w_5 55 [.int .i64 1, .int .i64 3, .int .i64 2, .int .i64 4] fun b6 w_7 =>
  al w_7 53 [.sl (⟨none, 0, 0⟩), .int .i64 0] fun b8 w_9 =>
  st w_9 b8 0 [.sl (⟨some (b6, 0), 2, 2⟩), .int .i64 0] fun w_10 =>
  ld w_10 .sl b3 0 fun a11 =>
  ld w_10 (.int .i64) b3 1 fun n12 =>
  ld w_10 .sl b8 0 fun a13 =>
  ld w_10 (.int .i64) b8 1 fun n14 =>
  al w_10 53 [.sl a11, .int .i64 n12, .sl a13, .int .i64 n14] fun b15 w_16 =>
  callK Try.prog 20 [.leaf (.sl (⟨some (b15, 0), 2, 2⟩))] w_16 (.one (.leaf (.sl))) fun a17 w_18 =>
  callK Try.prog 19 [.leaf (.sl a17)] w_18 (.tup [.leaf (.sl), .leaf (.int .i64), .leaf (.bool)]) fun a19 n20 c21 w_22 =>
  joinK [.bool] (fun k23 =>
    ifK c21
    (ifK (n20 == 0)
      (ifK ((a19.len : Int) == 4)
        (ix a19 2 0 fun b24 o25 =>
          ld w_22 (.int .i64) b24 (o25 + 1) fun n26 =>
          ifK (n26 == 1)
          (ix a19 2 1 fun b27 o28 =>
            ld w_22 (.int .i64) b27 (o28 + 1) fun n29 =>
            ifK (n29 == 3)
            (ix a19 2 2 fun b30 o31 =>
              ld w_22 (.int .i64) b30 (o31 + 1) fun n32 =>
              ifK (n32 == 4)
              (ix a19 2 3 fun b33 o34 =>
                ld w_22 (.int .i64) b33 (o34 + 1) fun n35 =>
                k23 (n35 == 2) w_22)
              (k23 false w_22))
            (k23 false w_22))
          (k23 false w_22))
        (k23 false w_22))
      (k23 false w_22))
    (k23 false w_22)) fun t036 w_37 =>
  K t036 w_37

def N_winnowlaw11_head : Ann := (.mk none [] [] .done .nil (.mk none [] [] .done .nil (.mk none [] [] .done .nil (.mk none [] [] .done .nil (.mk none [] [] .done (.mk (some [.tmp 0 (.leaf (.bool))]) [] [] .done .nil .nil) .nil)))))

theorem is_winnowlaw11_head  (K : Bool → World → Prop) (w : World) : WF Try.prog CS Try.f22 N_winnowlaw11_head (.one (.leaf (.bool))) [] K w = S_winnowlaw11_head  K w := by kernel_rfl
theorem go_winnowlaw11_head  (K : Bool → World → Prop) (w : World) (h : S_winnowlaw11_head  K w) : callK Try.prog 22 [] w (.one (.leaf (.bool))) K := by
  refine WF_sound (n := N_winnowlaw11_head) CS_ok mixed Try.func22 ?_
  rw [is_winnowlaw11_head]
  exact h


end Go.Proofs.Ytfhojgammfkabaa
