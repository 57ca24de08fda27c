/- The typed reading of the played sources, and of what makes merges of them. -/
import Derived.Test.YtfhojgammfkabaaS0
namespace Go.Proofs.Ytfhojgammfkabaa
open Go.Vw
-- 20 winnow/winnowlaw11.feeds
def S_winnowlaw11_feeds (l1 : Sl) (K : Sl → World → Prop) (w : World) : Prop :=
  joinK [.sl] (fun k2 =>
    loopL [.sl, .int .i64] (fun out4 i5 w_6 again3 =>
      ifK (decide (i5 < (l1.len : Int)))
      (ix l1 2 i5 fun b7 o8 =>
        ld w_6 .sl b7 o8 fun a9 =>
        ld w_6 (.int .i64) b7 (o8 + 1) fun n10 =>
        al w_6 73 [.sl a9, .int .i64 n10, .int .i64 0, .int .i64 0, .lit false, .lit false] fun b11 w_12 =>
        al w_12 74 [.ptr (some (b11, 0))] fun b13 w_14 =>
        ap w_14 74 1 8 [.ptr none] out4 (⟨some (b13, 0), 1, 1⟩) fun a15 w_16 =>
        again3 a15 (w64 (i5 + 1)) w_16)
      (k2 out4 w_6)) [.sl (⟨none, 0, 0⟩), .int .i64 0] w) fun out17 w_18 =>
  K out17 w_18

def N_winnowlaw11_feeds : Ann := (.mk none [] [] .done .nil (.mk none [] [] .done .nil (.mk none [] [] .done (.mk none [] [] .done .nil (.mk (some [.tmp 3 (.leaf (.sl))]) [] [] .done (.mk none [.tmp 3 (.leaf (.sl)), .tmp 4 (.leaf (.int .i64))] [0] .done .nil .nil) .nil)) .nil)))

theorem is_winnowlaw11_feeds (l1 : Sl) (K : Sl → World → Prop) (w : World) : WF Try.prog CS Try.f20 N_winnowlaw11_feeds (.one (.leaf (.sl))) [.leaf (.sl l1)] K w = S_winnowlaw11_feeds l1 K w := by kernel_rfl
theorem go_winnowlaw11_feeds (l1 : Sl) (K : Sl → World → Prop) (w : World) (h : S_winnowlaw11_feeds l1 K w) : callK Try.prog 20 [.leaf (.sl l1)] w (.one (.leaf (.sl))) K := by
  refine WF_sound (n := N_winnowlaw11_feeds) CS_ok mixed Try.func20 ?_
  rw [is_winnowlaw11_feeds]
  exact h

-- 23 winnow/winnowlaw11.made
def S_winnowlaw11_made (l1 : Sl) (K : PA → Int → World → Prop) (w : World) : Prop :=
  al w 73 [.sl (⟨none, 0, 0⟩), .int .i64 0, .int .i64 0, .int .i64 0, .lit false, .lit false] fun b2 w_3 =>
  joinK [.sl] (fun k4 =>
    loopL [.sl, .int .i64] (fun from_6 i7 w_8 again5 =>
      ifK (decide (i7 < (l1.len : Int)))
      ((∀ x ∈ [(.func (.func 34) #[(LV.toV (.ptr (some (b2, 0))))] #[] : Value)], isCell x = true) ∧
        al w_8 68 [.val (.func (.func 34) #[(LV.toV (.ptr (some (b2, 0))))] #[])] fun b9 w_10 =>
        ap w_10 68 1 8 [.val .nilFunc] from_6 (⟨some (b9, 0), 1, 1⟩) fun a11 w_12 =>
        again5 a11 (w64 (i7 + 1)) w_12)
      (k4 from_6 w_8)) [.sl (⟨none, 0, 0⟩), .int .i64 0] w_3) fun from_13 w_14 =>
  (∀ x ∈ [(.nilFunc : Value)], isCell x = true) ∧
  al w_14 68 [.val .nilFunc] fun b15 w_16 =>
  ap w_16 68 1 8 [.val .nilFunc] from_13 (⟨some (b15, 0), 1, 1⟩) fun a17 w_18 =>
  slx a17 1 none (some (l1.len : Int)) none fun s19 =>
  callK Try.prog 30 [.leaf (.val (.func (.func 31) #[] #[])), .leaf (.sl s19)] w_18 (.tup [.leaf (.ptr), .leaf (.int .i64)]) fun p20 n21 w_22 =>
  joinK [] (fun k23 =>
    loopL [.int .i64] (fun i25 w_26 again24 =>
      ifK (decide (i25 < (l1.len : Int)))
      (ix l1 1 i25 fun b27 o28 =>
        ld w_26 .ptr b27 o28 fun p29 =>
        ix a17 1 i25 fun b30 o31 =>
        (∀ x ∈ [(.func (.func 34) #[(LV.toV (.ptr p29))] #[] : Value)], isCell x = true) ∧
        st w_26 b30 o31 [.val (.func (.func 34) #[(LV.toV (.ptr p29))] #[])] fun w_32 =>
        again24 (w64 (i25 + 1)) w_32)
      (k23 w_26)) [.int .i64 0] w_22) fun w_33 =>
  slx a17 1 none (some (l1.len : Int)) none fun s34 =>
  callK Try.prog 30 [.leaf (.val (.func (.func 31) #[] #[])), .leaf (.sl s34)] w_33 (.tup [.leaf (.ptr), .leaf (.int .i64)]) fun p35 n36 w_37 =>
  joinK [] (fun k38 =>
    loopL [.int .i64] (fun i40 w_41 again39 =>
      ifK (decide (i40 < (l1.len : Int)))
      (ix a17 1 i40 fun b42 o43 =>
        (∀ x ∈ [(.nilFunc : Value)], isCell x = true) ∧
        st w_41 b42 o43 [.val .nilFunc] fun w_44 =>
        again39 (w64 (i40 + 1)) w_44)
      (k38 w_41)) [.int .i64 0] w_37) fun w_45 =>
  K p35 n36 w_45

def N_winnowlaw11_made : Ann := (.mk none [] [] .done .nil (.mk none [] [] .done .nil (.mk none [] [] .done .nil (.mk none [] [] .done (.mk none [] [] .done .nil (.mk (some [.tmp 4 (.leaf (.sl))]) [] [0] .done (.mk none [.tmp 4 (.leaf (.sl)), .tmp 6 (.leaf (.int .i64))] [0, 5] .done .nil .nil) .nil)) (.mk none [] [] .done .nil (.mk none [] [] .done .nil (.mk none [] [] .done (.mk none [] [] .done .nil (.mk (some []) [] [0, 4] .done (.mk none [.tmp 7 (.leaf (.int .i64))] [0, 4] .done .nil .nil) .nil)) (.mk none [] [] .done .nil (.mk none [] [] .done (.mk none [] [] .done .nil (.mk (some []) [] [8, 9] .done (.mk none [.tmp 10 (.leaf (.int .i64))] [0, 4, 8, 9] .done .nil .nil) .nil)) .nil)))))))))

theorem is_winnowlaw11_made (l1 : Sl) (K : PA → Int → World → Prop) (w : World) : WF Try.prog CS Try.f23 N_winnowlaw11_made (.tup [.leaf (.ptr), .leaf (.int .i64)]) [.leaf (.sl l1)] K w = S_winnowlaw11_made l1 K w := by kernel_rfl
theorem go_winnowlaw11_made (l1 : Sl) (K : PA → Int → World → Prop) (w : World) (h : S_winnowlaw11_made l1 K w) : callK Try.prog 23 [.leaf (.sl l1)] w (.tup [.leaf (.ptr), .leaf (.int .i64)]) K := by
  refine WF_sound (n := N_winnowlaw11_made) CS_ok mixed Try.func23 ?_
  rw [is_winnowlaw11_made]
  exact h

-- 24 winnow/winnowlaw11.asked
def S_winnowlaw11_asked (l1 : Sl) (K : Int → World → Prop) (w : World) : Prop :=
  joinK [.int .i64] (fun k2 =>
    loopL [.int .i64, .int .i64] (fun n4 i5 w_6 again3 =>
      ifK (decide (i5 < (l1.len : Int)))
      (ix l1 1 i5 fun b7 o8 =>
        ld w_6 .ptr b7 o8 fun p9 =>
        dr p9 fun b10 o11 =>
        ld w_6 (.int .i64) b10 (o11 + 3) fun n12 =>
        again3 (w64 (n4 + n12)) (w64 (i5 + 1)) w_6)
      (k2 n4 w_6)) [.int .i64 0, .int .i64 0] w) fun n13 w_14 =>
  K n13 w_14

def N_winnowlaw11_asked : Ann := (.mk none [] [] .done .nil (.mk none [] [] .done .nil (.mk none [] [] .done (.mk none [] [] .done .nil (.mk (some [.tmp 3 (.leaf (.int .i64))]) [] [] .done (.mk none [.tmp 3 (.leaf (.int .i64)), .tmp 4 (.leaf (.int .i64))] [0] .done .nil .nil) .nil)) .nil)))

theorem is_winnowlaw11_asked (l1 : Sl) (K : Int → World → Prop) (w : World) : WF Try.prog CS Try.f24 N_winnowlaw11_asked (.one (.leaf (.int .i64))) [.leaf (.sl l1)] K w = S_winnowlaw11_asked l1 K w := by kernel_rfl
theorem go_winnowlaw11_asked (l1 : Sl) (K : Int → World → Prop) (w : World) (h : S_winnowlaw11_asked l1 K w) : callK Try.prog 24 [.leaf (.sl l1)] w (.one (.leaf (.int .i64))) K := by
  refine WF_sound (n := N_winnowlaw11_asked) CS_ok mixed Try.func24 ?_
  rw [is_winnowlaw11_asked]
  exact h

-- 31 winnow/winnowlaw11.compare
def S_winnowlaw11_compare (a_0_1 : Int) (a_1_2 : Int) (b_0_3 : Int) (b_1_4 : Int) (K : Int → World → Prop) (w : World) : Prop :=
  al w 55 [.int .i64 a_0_1, .int .i64 a_1_2] fun b5 w_6 =>
  al w_6 55 [.int .i64 b_0_3, .int .i64 b_1_4] fun b7 w_8 =>
  ld w_8 (.int .i64) b5 0 fun n9 =>
  ld w_8 (.int .i64) b7 0 fun n10 =>
  ifK (decide (n9 < n10))
  (K (-1) w_8)
  (ld w_8 (.int .i64) b5 0 fun n11 =>
    ld w_8 (.int .i64) b7 0 fun n12 =>
    ifK (decide (n12 < n11))
    (K 7 w_8)
    (K 0 w_8))

def N_winnowlaw11_compare : Ann := .nil

theorem is_winnowlaw11_compare (a_0_1 : Int) (a_1_2 : Int) (b_0_3 : Int) (b_1_4 : Int) (K : Int → World → Prop) (w : World) : WF Try.prog CS Try.f31 N_winnowlaw11_compare (.one (.leaf (.int .i64))) [.agg [.int .i64 a_0_1, .int .i64 a_1_2], .agg [.int .i64 b_0_3, .int .i64 b_1_4]] K w = S_winnowlaw11_compare a_0_1 a_1_2 b_0_3 b_1_4 K w := by kernel_rfl
theorem go_winnowlaw11_compare (a_0_1 : Int) (a_1_2 : Int) (b_0_3 : Int) (b_1_4 : Int) (K : Int → World → Prop) (w : World) (h : S_winnowlaw11_compare a_0_1 a_1_2 b_0_3 b_1_4 K w) : callK Try.prog 31 [.agg [.int .i64 a_0_1, .int .i64 a_1_2], .agg [.int .i64 b_0_3, .int .i64 b_1_4]] w (.one (.leaf (.int .i64))) K := by
  refine WF_sound (n := N_winnowlaw11_compare) CS_ok mixed Try.func31 ?_
  rw [is_winnowlaw11_compare]
  exact h

-- 34 (*winnow/winnowlaw11.Feed).next
def S_winnowlaw11_Feed_next (f1 : PA) (K : Int → Int → Bool → Int → World → Prop) (w : World) : Prop :=
  al w 55 [.int .i64 0, .int .i64 0] fun b2 w_3 =>
  dr f1 fun b4 o5 =>
  ld w_3 (.int .i64) b4 (o5 + 3) fun n6 =>
  dr f1 fun b7 o8 =>
  st w_3 b7 (o8 + 3) [.int .i64 (w64 (n6 + 1))] fun w_9 =>
  joinK [] (fun k10 =>
    dr f1 fun b11 o12 =>
    ld w_9 .bool b11 (o12 + 5) fun c13 =>
    ifK c13
    (dr f1 fun b14 o15 =>
      st w_9 b14 (o15 + 5) [.lit true] fun w_16 =>
      k10 w_16)
    (dr f1 fun b17 o18 =>
      ld w_9 .bool b17 (o18 + 4) fun c19 =>
      dr f1 fun b20 o21 =>
      st w_9 b20 (o21 + 5) [.bool c19] fun w_22 =>
      k10 w_22)) fun w_23 =>
  drawK w_23 fun D w_24 =>
  dr f1 fun b25 o26 =>
  ldD D w_24 (.int .i64) b25 (o26 + 2) fun n27 =>
  dr f1 fun b28 o29 =>
  ldD D w_24 .sl b28 o29 fun a30 =>
  ifK (decide (n27 < (a30.len : Int)))
  (dr f1 fun b31 o32 =>
    ld w_24 (.int .i64) b31 (o32 + 2) fun n33 =>
    dr f1 fun b34 o35 =>
    st w_24 b34 (o35 + 2) [.int .i64 (w64 (n33 + 1))] fun w_36 =>
    drawK w_36 fun D w_37 =>
    dr f1 fun b38 o39 =>
    ldD D w_37 .sl b38 o39 fun a40 =>
    dr f1 fun b41 o42 =>
    ldD D w_37 (.int .i64) b41 (o42 + 2) fun n43 =>
    ix a40 2 (w64 (n43 - 1)) fun b44 o45 =>
    ldD D w_37 (.int .i64) b44 o45 fun n46 =>
    ldD D w_37 (.int .i64) b44 (o45 + 1) fun n47 =>
    st w_37 b2 0 [.int .i64 n46, .int .i64 n47] fun w_48 =>
    Mod D w_37 w_48 ∧
    ld w_48 (.int .i64) b2 0 fun n49 =>
    ld w_48 (.int .i64) b2 1 fun n50 =>
    K n49 n50 true 0 w_48)
  (dr f1 fun b51 o52 =>
    st w_24 b51 (o52 + 4) [.lit true] fun w_53 =>
    drawK w_53 fun D w_54 =>
    dr f1 fun b55 o56 =>
    ldD D w_54 (.int .i64) b55 (o56 + 1) fun n57 =>
    st w_54 b2 0 [.int .i64 (-99), .int .i64 (-99)] fun w_58 =>
    Mod D w_54 w_58 ∧
    ld w_58 (.int .i64) b2 0 fun n59 =>
    ld w_58 (.int .i64) b2 1 fun n60 =>
    K n59 n60 false n57 w_58)

def N_winnowlaw11_Feed_next : Ann := (.mk none [] [] .done .nil (.mk none [] [] .done .nil (.mk none [] [] .done (.mk (some []) [] [0, 2] .done .nil .nil) (.mk none [] [] .done (.mk none [] [] .done (.mk none [] [] (.take 0 (.take 1 (.take 2 (.take 3 (.take 4 (.take 5 (.take 6 (.take 7 (.take 8 (.take 9 (.take 10 .done))))))))))) .nil .nil) (.mk none [] [] .done (.mk none [] [] .done .nil (.mk none [] [] .done (.mk none [] [] (.take 0 (.take 1 (.take 2 (.take 3 (.take 4 (.take 5 (.take 6 (.take 7 (.take 8 (.take 9 (.take 10 (.take 11 (.eff 12 (.take 13 (.take 14 .done))))))))))))))) .nil .nil) .nil)) .nil)) (.mk none [] [] .done .nil (.mk none [] [] .done (.mk none [] [] (.take 0 (.take 1 (.take 2 (.take 3 (.take 4 (.take 5 (.eff 6 (.take 7 (.take 8 .done))))))))) .nil .nil) .nil))))))

theorem is_winnowlaw11_Feed_next (f1 : PA) (K : Int → Int → Bool → Int → World → Prop) (w : World) : WF Try.prog CS Try.f34 N_winnowlaw11_Feed_next (.tup [.agg [.int .i64, .int .i64], .leaf (.bool), .leaf (.int .i64)]) [.leaf (.ptr f1)] K w = S_winnowlaw11_Feed_next f1 K w := by kernel_rfl
theorem go_winnowlaw11_Feed_next (f1 : PA) (K : Int → Int → Bool → Int → World → Prop) (w : World) (h : S_winnowlaw11_Feed_next f1 K w) : callK Try.prog 34 [.leaf (.ptr f1)] w (.tup [.agg [.int .i64, .int .i64], .leaf (.bool), .leaf (.int .i64)]) K := by
  refine WF_sound (n := N_winnowlaw11_Feed_next) CS_ok mixed Try.func34 ?_
  rw [is_winnowlaw11_Feed_next]
  exact h


end Go.Proofs.Ytfhojgammfkabaa
