/- Readings: a nil store. -/
import Derived.Test.YtjldecomhpngmaaS0
namespace Go.Proofs.Ytjldecomhpngmaa
open Go.Vw
-- 7 winnow/winnowlaw5.StoreNone
def S_winnowlaw5_StoreNone (x_0_1 : Int) (x_1_2 : List UInt8) (x_2_3 : Int) (x_3_4 : Int) (x_4_5 : Sl) (x_5_6 : Int) (K : Bool → World → Prop) (w : World) : Prop :=
  al w 62 [.int .i64 x_0_1, .str x_1_2, .int .i64 x_2_3, .int .i64 x_3_4, .sl x_4_5, .int .u32 x_5_6] fun b7 w_8 =>
  al w_8 68 [.ptr none, .ptr none, .sl (⟨none, 0, 0⟩), .sl (⟨none, 0, 0⟩), .sl (⟨none, 0, 0⟩), .sl (⟨none, 0, 0⟩)] fun b9 w_10 =>
  ld w_10 (.int .i64) b7 0 fun n11 =>
  ld w_10 .str b7 1 fun s12 =>
  ld w_10 (.int .i64) b7 2 fun n13 =>
  ld w_10 (.int .i64) b7 3 fun n14 =>
  ld w_10 .sl b7 4 fun a15 =>
  ld w_10 (.int .u32) b7 5 fun n16 =>
  callK Try.prog 25 [.leaf (.ptr (some (b9, 0))), .agg [.int .i64 n11, .str s12, .int .i64 n13, .int .i64 n14, .sl a15, .int .u32 n16]] w_10 (.one (.leaf (.bool))) fun c17 w_18 =>
  joinK [.bool] (fun k19 =>
    ifK c17
    (dr (some (b9, 0)) fun b20 o21 =>
      ld w_18 .ptr b20 o21 fun p22 =>
      callK Try.prog 24 [.leaf (.ptr p22), .leaf (.str [])] w_18 (.one (.leaf (.sl))) fun a23 w_24 =>
      ifK ((a23.len : Int) == 0)
      (dr (some (b9, 0)) fun b25 o26 =>
        ld w_24 .ptr b25 o26 fun p27 =>
        callK Try.prog 16 [.leaf (.ptr p27)] w_24 (.one (.agg [.int .i64, .int .i64, .int .i64])) fun n28 n29 n30 w_31 =>
        opF Try.prog (vS (do eqGuard .eql 31 (.tmp 25) (.tmp 26) (.agg #[(LV.toV (.int .i64 n28)), (LV.toV (.int .i64 n29)), (LV.toV (.int .i64 n30))]) (.agg #[(LV.toV (.int .i64 0)), (LV.toV (.int .i64 0)), (LV.toV (.int .i64 0))]); binOp .eql 31 (.agg #[(LV.toV (.int .i64 n28)), (LV.toV (.int .i64 n29)), (LV.toV (.int .i64 n30))]) (.agg #[(LV.toV (.int .i64 0)), (LV.toV (.int .i64 0)), (LV.toV (.int .i64 0))]))) w_31 (.one (.leaf (.bool))) fun c33 w_32 =>
        k19 c33 w_32)
      (k19 false w_24))
    (k19 false w_18)) fun t234 w_35 =>
  K t234 w_35

def N_winnowlaw5_StoreNone : Ann := (.mk none [] [] .done .nil (.mk none [] [] .done .nil (.mk none [] [] .done .nil (.mk none [] [] .done (.mk (some [.tmp 2 (.leaf (.bool))]) [] [] .done .nil .nil) .nil))))

theorem is_winnowlaw5_StoreNone (x_0_1 : Int) (x_1_2 : List UInt8) (x_2_3 : Int) (x_3_4 : Int) (x_4_5 : Sl) (x_5_6 : Int) (K : Bool → World → Prop) (w : World) : WF Try.prog CS Try.f7 N_winnowlaw5_StoreNone (.one (.leaf (.bool))) [.agg [.int .i64 x_0_1, .str x_1_2, .int .i64 x_2_3, .int .i64 x_3_4, .sl x_4_5, .int .u32 x_5_6]] K w = S_winnowlaw5_StoreNone x_0_1 x_1_2 x_2_3 x_3_4 x_4_5 x_5_6 K w := by kernel_rfl
theorem go_winnowlaw5_StoreNone (x_0_1 : Int) (x_1_2 : List UInt8) (x_2_3 : Int) (x_3_4 : Int) (x_4_5 : Sl) (x_5_6 : Int) (K : Bool → World → Prop) (w : World) (h : S_winnowlaw5_StoreNone x_0_1 x_1_2 x_2_3 x_3_4 x_4_5 x_5_6 K w) : callK Try.prog 7 [.agg [.int .i64 x_0_1, .str x_1_2, .int .i64 x_2_3, .int .i64 x_3_4, .sl x_4_5, .int .u32 x_5_6]] w (.one (.leaf (.bool))) K := by
  refine WF_sound (n := N_winnowlaw5_StoreNone) CS_ok mixed Try.func7 ?_
  rw [is_winnowlaw5_StoreNone]
  exact h

-- 24 (*winnow/store.Store).List
def S_store_Store_List (s1 : PA) (prefix_2 : List UInt8) (K : Sl → World → Prop) (w : World) : Prop :=
  ifK s1.isNone
  (K (⟨none, 0, 0⟩) w)
  (dr s1 fun b3 o4 =>
    callK Try.prog 29 [.leaf (.ptr (some (b3, o4)))] w (.tup []) fun w_5 =>
    dr s1 fun b6 o7 =>
    dr s1 fun b8 o9 =>
    ld w_5 .map b8 (o9 + 2) fun m10 =>
    opF Try.prog (vS (Instr.range 73 (LV.toV (.map m10)))) w_5 (.one (.leaf (.val))) fun v12 w_11 =>
    joinK [.sl] (fun k13 =>
      loopL [.sl] (fun l15 w_16 again14 =>
        joinK [.bool] (fun k17 =>
          opNext Try.prog (vS (Instr.next v12 false 0)) w_16
          (fun w_18 =>
            k17 false w_18)
          (fun v20 v21 w_19 =>
            k17 true w_19)) fun t2422 w_23 =>
        ifK t2422
        (joinK [.sl] (fun k24 =>
            opEnt Try.prog (vS (Instr.entry v12)) w_23 fun v26 v27 w_25 =>
            castK v26 .str fun s28 =>
            castK v27 .ptr fun p29 =>
            callK Try.prog 36 [.leaf (.str s28), .leaf (.str prefix_2)] w_25 (.one (.leaf (.bool))) fun c30 w_31 =>
            ifK (!c30)
            (k24 l15 w_31)
            (dr p29 fun b32 o33 =>
              ld w_31 .bool b32 (o33 + 1) fun c34 =>
              joinK [.int .i64] (fun k35 =>
                ifK c34
                (k35 2 w_31)
                (k35 1 w_31)) fun state36 w_37 =>
              dr p29 fun b38 o39 =>
              ld w_37 .sl b38 o39 fun a40 =>
              al w_37 59 [.str s28, .int .i64 state36, .int .i64 (a40.len : Int)] fun b41 w_42 =>
              ap w_42 59 3 32 [.str [], .int .i64 0, .int .i64 0] l15 (⟨some (b41, 0), 1, 1⟩) fun a43 w_44 =>
              k24 a43 w_44)) fun l45 w_46 =>
          again14 l45 w_46)
        (k13 l15 w_23)) [.sl (⟨none, 0, 0⟩)] w_11) fun l47 w_48 =>
    callK Try.prog 37 [.leaf (.sl l47), .leaf (.val (.func (.func 38) #[] #[]))] w_48 (.tup []) fun w_49 =>
    callsK Try.prog [(30, [.leaf (.ptr (some (b6, o7)))])] w_49 fun w_50 =>
    K l47 w_50)

def N_store_Store_List : Ann := (.mk none [] [] .done .nil (.mk none [] [] .done .nil (.mk none [] [] .done .nil (.mk none [] [] .done .nil (.mk none [] [] .done .nil (.mk none [] [] .done (.mk none [] [] .done .nil (.mk (some [.tmp 5 (.leaf (.sl))]) [] [] .done (.mk none [.tmp 5 (.leaf (.sl))] [1, 22] .done (.mk none [] [] .done (.mk (some [.tmp 24 (.leaf (.bool))]) [] [1, 5, 22] .done .nil .nil) (.mk none [] [] .done .nil (.mk (some [.tmp 5 (.leaf (.sl))]) [] [1, 22] .done (.mk none [] [] .done .nil (.mk none [] [] .done .nil (.mk none [] [] .done .nil (.mk none [] [] .done (.mk none [] [] .done .nil (.mk (some [.tmp 8 (.leaf (.int .i64))]) [] [1, 5, 6, 7, 22] .done .nil .nil)) .nil)))) .nil))) .nil) .nil)) .nil))))))

theorem is_store_Store_List (s1 : PA) (prefix_2 : List UInt8) (K : Sl → World → Prop) (w : World) : WF Try.prog CS Try.f24 N_store_Store_List (.one (.leaf (.sl))) [.leaf (.ptr s1), .leaf (.str prefix_2)] K w = S_store_Store_List s1 prefix_2 K w := by kernel_rfl
theorem go_store_Store_List (s1 : PA) (prefix_2 : List UInt8) (K : Sl → World → Prop) (w : World) (h : S_store_Store_List s1 prefix_2 K w) : callK Try.prog 24 [.leaf (.ptr s1), .leaf (.str prefix_2)] w (.one (.leaf (.sl))) K := by
  refine WF_sound (n := N_store_Store_List) CS_ok mixed Try.func24 ?_
  rw [is_store_Store_List]
  exact h

-- 36 strings.HasPrefix
def S_strings_HasPrefix (s1 : List UInt8) (prefix_2 : List UInt8) (K : Bool → World → Prop) (w : World) : Prop :=
  callK Try.prog 57 [.leaf (.str s1), .leaf (.str prefix_2)] w (.one (.leaf (.bool))) fun c3 w_4 =>
  K c3 w_4

def N_strings_HasPrefix : Ann := .nil

theorem is_strings_HasPrefix (s1 : List UInt8) (prefix_2 : List UInt8) (K : Bool → World → Prop) (w : World) : WF Try.prog CS Try.f36 N_strings_HasPrefix (.one (.leaf (.bool))) [.leaf (.str s1), .leaf (.str prefix_2)] K w = S_strings_HasPrefix s1 prefix_2 K w := by kernel_rfl
theorem go_strings_HasPrefix (s1 : List UInt8) (prefix_2 : List UInt8) (K : Bool → World → Prop) (w : World) (h : S_strings_HasPrefix s1 prefix_2 K w) : callK Try.prog 36 [.leaf (.str s1), .leaf (.str prefix_2)] w (.one (.leaf (.bool))) K := by
  refine WF_sound (n := N_strings_HasPrefix) CS_ok mixed Try.func36 ?_
  rw [is_strings_HasPrefix]
  exact h

-- 57 internal/stringslite.HasPrefix
def S_internal_stringslite_HasPrefix (s1 : List UInt8) (prefix_2 : List UInt8) (K : Bool → World → Prop) (w : World) : Prop :=
  joinK [.bool] (fun k3 =>
    ifK (decide ((prefix_2.length : Int) ≤ (s1.length : Int)))
    (ssx s1 none (some (prefix_2.length : Int)) fun s4 =>
      k3 (s4 == prefix_2) w)
    (k3 false w)) fun t45 w_6 =>
  K t45 w_6

def N_internal_stringslite_HasPrefix : Ann := (.mk none [] [] .done .nil (.mk none [] [] .done (.mk (some [.tmp 4 (.leaf (.bool))]) [] [] .done .nil .nil) .nil))

theorem is_internal_stringslite_HasPrefix (s1 : List UInt8) (prefix_2 : List UInt8) (K : Bool → World → Prop) (w : World) : WF Try.prog CS Try.f57 N_internal_stringslite_HasPrefix (.one (.leaf (.bool))) [.leaf (.str s1), .leaf (.str prefix_2)] K w = S_internal_stringslite_HasPrefix s1 prefix_2 K w := by kernel_rfl
theorem go_internal_stringslite_HasPrefix (s1 : List UInt8) (prefix_2 : List UInt8) (K : Bool → World → Prop) (w : World) (h : S_internal_stringslite_HasPrefix s1 prefix_2 K w) : callK Try.prog 57 [.leaf (.str s1), .leaf (.str prefix_2)] w (.one (.leaf (.bool))) K := by
  refine WF_sound (n := N_internal_stringslite_HasPrefix) CS_ok mixed Try.func57 ?_
  rw [is_internal_stringslite_HasPrefix]
  exact h

-- 38 (*winnow/store.Store).List$1
def S_store_Store_List_1 (a_0_1 : List UInt8) (a_1_2 : Int) (a_2_3 : Int) (b_0_4 : List UInt8) (b_1_5 : Int) (b_2_6 : Int) (K : Int → World → Prop) (w : World) : Prop :=
  al w 59 [.str a_0_1, .int .i64 a_1_2, .int .i64 a_2_3] fun b7 w_8 =>
  al w_8 59 [.str b_0_4, .int .i64 b_1_5, .int .i64 b_2_6] fun b9 w_10 =>
  ld w_10 .str b7 0 fun s11 =>
  ld w_10 .str b9 0 fun s12 =>
  callK Try.prog 39 [.leaf (.str s11), .leaf (.str s12)] w_10 (.one (.leaf (.int .i64))) fun n13 w_14 =>
  K n13 w_14

def N_store_Store_List_1 : Ann := .nil

theorem is_store_Store_List_1 (a_0_1 : List UInt8) (a_1_2 : Int) (a_2_3 : Int) (b_0_4 : List UInt8) (b_1_5 : Int) (b_2_6 : Int) (K : Int → World → Prop) (w : World) : WF Try.prog CS Try.f38 N_store_Store_List_1 (.one (.leaf (.int .i64))) [.agg [.str a_0_1, .int .i64 a_1_2, .int .i64 a_2_3], .agg [.str b_0_4, .int .i64 b_1_5, .int .i64 b_2_6]] K w = S_store_Store_List_1 a_0_1 a_1_2 a_2_3 b_0_4 b_1_5 b_2_6 K w := by kernel_rfl
theorem go_store_Store_List_1 (a_0_1 : List UInt8) (a_1_2 : Int) (a_2_3 : Int) (b_0_4 : List UInt8) (b_1_5 : Int) (b_2_6 : Int) (K : Int → World → Prop) (w : World) (h : S_store_Store_List_1 a_0_1 a_1_2 a_2_3 b_0_4 b_1_5 b_2_6 K w) : callK Try.prog 38 [.agg [.str a_0_1, .int .i64 a_1_2, .int .i64 a_2_3], .agg [.str b_0_4, .int .i64 b_1_5, .int .i64 b_2_6]] w (.one (.leaf (.int .i64))) K := by
  refine WF_sound (n := N_store_Store_List_1) CS_ok mixed Try.func38 ?_
  rw [is_store_Store_List_1]
  exact h

-- 25 (*winnow/winnowlaw5.World).told
def S_winnowlaw5_World_told (w_1 : PA) (x_0_2 : Int) (x_1_3 : List UInt8) (x_2_4 : Int) (x_3_5 : Int) (x_4_6 : Sl) (x_5_7 : Int) (K : Bool → World → Prop) (w : World) : Prop :=
  al w 62 [.int .i64 x_0_2, .str x_1_3, .int .i64 x_2_4, .int .i64 x_3_5, .sl x_4_6, .int .u32 x_5_7] fun b8 w_9 =>
  ld w_9 (.int .i64) b8 0 fun n10 =>
  ifK (n10 == 0)
  (drawK w_9 fun D w_11 =>
    dr w_1 fun b12 o13 =>
    ldD D w_11 .ptr b12 o13 fun p14 =>
    ldD D w_11 .str b8 1 fun s15 =>
    dr w_1 fun b16 o17 =>
    ldD D w_11 .ptr b16 (o17 + 1) fun p18 =>
    ldD D w_11 .str b8 1 fun s19 =>
    callK Try.prog 11 [.leaf (.ptr p14), .leaf (.str s15)] w_11 (.one (.leaf (.int .i64))) fun n20 w_21 =>
    Mod D w_11 w_21 ∧
    callK Try.prog 40 [.leaf (.ptr p18), .leaf (.str s19)] w_21 (.one (.leaf (.int .i64))) fun n22 w_23 =>
    Mod D w_11 w_23 ∧
    K (n20 == n22) w_23)
  (ifK (n10 == 1)
    (ld w_9 (.int .i64) b8 0 fun n24 =>
      ld w_9 .str b8 1 fun s25 =>
      ld w_9 (.int .i64) b8 2 fun n26 =>
      ld w_9 (.int .i64) b8 3 fun n27 =>
      ld w_9 .sl b8 4 fun a28 =>
      ld w_9 (.int .u32) b8 5 fun n29 =>
      callK Try.prog 41 [.leaf (.ptr w_1), .agg [.int .i64 n24, .str s25, .int .i64 n26, .int .i64 n27, .sl a28, .int .u32 n29]] w_9 (.one (.leaf (.bool))) fun c30 w_31 =>
      K c30 w_31)
    (ifK (n10 == 2)
      (drawK w_9 fun D w_32 =>
        dr w_1 fun b33 o34 =>
        ldD D w_32 .ptr b33 o34 fun p35 =>
        ldD D w_32 .str b8 1 fun s36 =>
        dr w_1 fun b37 o38 =>
        ldD D w_32 .ptr b37 (o38 + 1) fun p39 =>
        ldD D w_32 .str b8 1 fun s40 =>
        callK Try.prog 13 [.leaf (.ptr p35), .leaf (.str s36)] w_32 (.one (.leaf (.int .i64))) fun n41 w_42 =>
        Mod D w_32 w_42 ∧
        callK Try.prog 42 [.leaf (.ptr p39), .leaf (.str s40)] w_42 (.one (.leaf (.int .i64))) fun n43 w_44 =>
        Mod D w_32 w_44 ∧
        K (n41 == n43) w_44)
      (ifK (n10 == 3)
        (drawK w_9 fun D w_45 =>
          dr w_1 fun b46 o47 =>
          ldD D w_45 .ptr b46 o47 fun p48 =>
          ldD D w_45 .str b8 1 fun s49 =>
          ldD D w_45 (.int .i64) b8 2 fun n50 =>
          ldD D w_45 (.int .i64) b8 3 fun n51 =>
          callK Try.prog 14 [.leaf (.ptr p48), .leaf (.str s49), .leaf (.int .i64 n50), .leaf (.int .i64 n51)] w_45 (.tup [.leaf (.sl), .leaf (.int .i64)]) fun a52 n53 w_54 =>
          Mod D w_45 w_54 ∧
          drawK w_54 fun D w_55 =>
          dr w_1 fun b56 o57 =>
          ldD D w_55 .ptr b56 (o57 + 1) fun p58 =>
          ldD D w_55 .str b8 1 fun s59 =>
          ldD D w_55 (.int .i64) b8 2 fun n60 =>
          ldD D w_55 (.int .i64) b8 3 fun n61 =>
          callK Try.prog 43 [.leaf (.ptr p58), .leaf (.str s59), .leaf (.int .i64 n60), .leaf (.int .i64 n61)] w_55 (.tup [.leaf (.sl), .leaf (.int .i64)]) fun a62 n63 w_64 =>
          Mod D w_55 w_64 ∧
          drawK w_64 fun D w_65 =>
          dr w_1 fun b66 o67 =>
          ldD D w_65 .ptr b66 o67 fun p68 =>
          ldD D w_65 .str b8 1 fun s69 =>
          ldD D w_65 (.int .i64) b8 2 fun n70 =>
          ldD D w_65 (.int .i64) b8 3 fun n71 =>
          callK Try.prog 14 [.leaf (.ptr p68), .leaf (.str s69), .leaf (.int .i64 n70), .leaf (.int .i64 n71)] w_65 (.tup [.leaf (.sl), .leaf (.int .i64)]) fun a72 n73 w_74 =>
          Mod D w_65 w_74 ∧
          drawK w_74 fun D w_75 =>
          dr w_1 fun b76 o77 =>
          ldD D w_75 .ptr b76 (o77 + 1) fun p78 =>
          ldD D w_75 .str b8 1 fun s79 =>
          ldD D w_75 (.int .i64) b8 2 fun n80 =>
          ldD D w_75 (.int .i64) b8 3 fun n81 =>
          callK Try.prog 43 [.leaf (.ptr p78), .leaf (.str s79), .leaf (.int .i64 n80), .leaf (.int .i64 n81)] w_75 (.tup [.leaf (.sl), .leaf (.int .i64)]) fun a82 n83 w_84 =>
          Mod D w_75 w_84 ∧
          joinK [.bool] (fun k85 =>
            ifK (n53 == n63)
            (callK Try.prog 15 [.leaf (.sl a52), .leaf (.sl a62)] w_84 (.one (.leaf (.bool))) fun c86 w_87 =>
              ifK c86
              (k85 (n73 == n83) w_87)
              (k85 false w_87))
            (k85 false w_84)) fun ok88 w_89 =>
          callK Try.prog 44 [.leaf (.ptr w_1), .leaf (.sl a52)] w_89 (.tup []) fun w_90 =>
          joinK [.bool] (fun k91 =>
            ifK ok88
            (callK Try.prog 15 [.leaf (.sl a72), .leaf (.sl a82)] w_90 (.one (.leaf (.bool))) fun c92 w_93 =>
              k91 c92 w_93)
            (k91 false w_90)) fun ok94 w_95 =>
          callK Try.prog 44 [.leaf (.ptr w_1), .leaf (.sl a72)] w_95 (.tup []) fun w_96 =>
          K ok94 w_96)
        (ifK (n10 == 4)
          (drawK w_9 fun D w_97 =>
            dr w_1 fun b98 o99 =>
            ldD D w_97 .ptr b98 o99 fun p100 =>
            ldD D w_97 .str b8 1 fun s101 =>
            callK Try.prog 20 [.leaf (.ptr p100), .leaf (.str s101)] w_97 (.tup [.leaf (.int .i64), .leaf (.int .i64)]) fun n102 n103 w_104 =>
            Mod D w_97 w_104 ∧
            drawK w_104 fun D w_105 =>
            dr w_1 fun b106 o107 =>
            ldD D w_105 .ptr b106 (o107 + 1) fun p108 =>
            ldD D w_105 .str b8 1 fun s109 =>
            callK Try.prog 45 [.leaf (.ptr p108), .leaf (.str s109)] w_105 (.tup [.leaf (.int .i64), .leaf (.int .i64)]) fun n110 n111 w_112 =>
            Mod D w_105 w_112 ∧
            joinK [.bool] (fun k113 =>
              ifK (n102 == n110)
              (k113 (n103 == n111) w_112)
              (k113 false w_112)) fun t4114 w_115 =>
            K t4114 w_115)
          (ifK (n10 == 5)
            (drawK w_9 fun D w_116 =>
              dr w_1 fun b117 o118 =>
              ldD D w_116 .ptr b117 o118 fun p119 =>
              ldD D w_116 .str b8 1 fun s120 =>
              dr w_1 fun b121 o122 =>
              ldD D w_116 .ptr b121 (o122 + 1) fun p123 =>
              ldD D w_116 .str b8 1 fun s124 =>
              callK Try.prog 46 [.leaf (.ptr p119), .leaf (.str s120)] w_116 (.one (.leaf (.int .i64))) fun n125 w_126 =>
              Mod D w_116 w_126 ∧
              callK Try.prog 47 [.leaf (.ptr p123), .leaf (.str s124)] w_126 (.one (.leaf (.int .i64))) fun n127 w_128 =>
              Mod D w_116 w_128 ∧
              K (n125 == n127) w_128)
            (ifK (n10 == 6)
              (drawK w_9 fun D w_129 =>
                dr w_1 fun b130 o131 =>
                ldD D w_129 .ptr b130 o131 fun p132 =>
                ldD D w_129 .str b8 1 fun s133 =>
                callK Try.prog 24 [.leaf (.ptr p132), .leaf (.str s133)] w_129 (.one (.leaf (.sl))) fun a134 w_135 =>
                Mod D w_129 w_135 ∧
                drawK w_135 fun D w_136 =>
                dr w_1 fun b137 o138 =>
                ldD D w_136 .ptr b137 o138 fun p139 =>
                ldD D w_136 .str b8 1 fun s140 =>
                callK Try.prog 24 [.leaf (.ptr p139), .leaf (.str s140)] w_136 (.one (.leaf (.sl))) fun a141 w_142 =>
                Mod D w_136 w_142 ∧
                drawK w_142 fun D w_143 =>
                dr w_1 fun b144 o145 =>
                ldD D w_143 .ptr b144 (o145 + 1) fun p146 =>
                ldD D w_143 .str b8 1 fun s147 =>
                callK Try.prog 48 [.leaf (.ptr p146), .leaf (.str s147)] w_143 (.one (.leaf (.sl))) fun a148 w_149 =>
                Mod D w_143 w_149 ∧
                callK Try.prog 49 [.leaf (.sl a134), .leaf (.sl a148)] w_149 (.one (.leaf (.bool))) fun c150 w_151 =>
                callK Try.prog 50 [.leaf (.ptr w_1), .leaf (.sl a134)] w_151 (.tup []) fun w_152 =>
                joinK [.bool] (fun k153 =>
                  ifK c150
                  (callK Try.prog 49 [.leaf (.sl a141), .leaf (.sl a148)] w_152 (.one (.leaf (.bool))) fun c154 w_155 =>
                    k153 c154 w_155)
                  (k153 false w_152)) fun ok156 w_157 =>
                callK Try.prog 50 [.leaf (.ptr w_1), .leaf (.sl a141)] w_157 (.tup []) fun w_158 =>
                K ok156 w_158)
              (ifK (n10 == 7)
                (drawK w_9 fun D w_159 =>
                  dr w_1 fun b160 o161 =>
                  ldD D w_159 .ptr b160 o161 fun p162 =>
                  ldD D w_159 .str b8 1 fun s163 =>
                  ldD D w_159 (.int .i64) b8 2 fun n164 =>
                  dr w_1 fun b165 o166 =>
                  ldD D w_159 .ptr b165 (o166 + 1) fun p167 =>
                  ldD D w_159 .str b8 1 fun s168 =>
                  ldD D w_159 (.int .i64) b8 2 fun n169 =>
                  callK Try.prog 22 [.leaf (.ptr p162), .leaf (.str s163), .leaf (.int .i64 n164)] w_159 (.one (.leaf (.int .i64))) fun n170 w_171 =>
                  Mod D w_159 w_171 ∧
                  callK Try.prog 51 [.leaf (.ptr p167), .leaf (.str s168), .leaf (.int .i64 n169)] w_171 (.one (.leaf (.int .i64))) fun n172 w_173 =>
                  Mod D w_159 w_173 ∧
                  K (n170 == n172) w_173)
                (ifK (n10 == 8)
                  (drawK w_9 fun D w_174 =>
                    dr w_1 fun b175 o176 =>
                    ldD D w_174 .ptr b175 o176 fun p177 =>
                    ldD D w_174 .str b8 1 fun s178 =>
                    ldD D w_174 (.int .i64) b8 2 fun n179 =>
                    ldD D w_174 (.int .u32) b8 5 fun n180 =>
                    dr w_1 fun b181 o182 =>
                    ldD D w_174 .ptr b181 (o182 + 1) fun p183 =>
                    ldD D w_174 .str b8 1 fun s184 =>
                    ldD D w_174 (.int .i64) b8 2 fun n185 =>
                    ldD D w_174 (.int .u32) b8 5 fun n186 =>
                    callK Try.prog 18 [.leaf (.ptr p177), .leaf (.str s178), .leaf (.int .i64 n179), .leaf (.int .u32 n180)] w_174 (.one (.leaf (.int .i64))) fun n187 w_188 =>
                    Mod D w_174 w_188 ∧
                    callK Try.prog 52 [.leaf (.ptr p183), .leaf (.str s184), .leaf (.int .i64 n185), .leaf (.int .u32 n186)] w_188 (.one (.leaf (.int .i64))) fun n189 w_190 =>
                    Mod D w_174 w_190 ∧
                    K (n187 == n189) w_190)
                  (ifK (n10 == 9)
                    (joinK [.bool] (fun k191 =>
                        ld w_9 (.int .i64) b8 2 fun n192 =>
                        ifK (decide (1000000 < n192))
                        (ld w_9 (.int .i64) b8 2 fun n193 =>
                          k191 (decide (n193 < 536870912)) w_9)
                        (k191 false w_9)) fun t288194 w_195 =>
                      joinK [] (fun k196 =>
                        ifK t288194
                        (st w_195 b8 2 [.int .i64 1000000] fun w_197 =>
                          k196 w_197)
                        (k196 w_195)) fun w_198 =>
                      drawK w_198 fun D w_199 =>
                      dr w_1 fun b200 o201 =>
                      ldD D w_199 .ptr b200 o201 fun p202 =>
                      ldD D w_199 .str b8 1 fun s203 =>
                      ldD D w_199 (.int .i64) b8 2 fun n204 =>
                      dr w_1 fun b205 o206 =>
                      ldD D w_199 .ptr b205 (o206 + 1) fun p207 =>
                      ldD D w_199 .str b8 1 fun s208 =>
                      ldD D w_199 (.int .i64) b8 2 fun n209 =>
                      callK Try.prog 19 [.leaf (.ptr p202), .leaf (.str s203), .leaf (.int .i64 n204)] w_199 (.one (.leaf (.int .i64))) fun n210 w_211 =>
                      Mod D w_199 w_211 ∧
                      callK Try.prog 53 [.leaf (.ptr p207), .leaf (.str s208), .leaf (.int .i64 n209)] w_211 (.one (.leaf (.int .i64))) fun n212 w_213 =>
                      Mod D w_199 w_213 ∧
                      K (n210 == n212) w_213)
                    (ifK (n10 == 10)
                      (drawK w_9 fun D w_214 =>
                        dr w_1 fun b215 o216 =>
                        ldD D w_214 .ptr b215 o216 fun p217 =>
                        dr w_1 fun b218 o219 =>
                        ldD D w_214 .ptr b218 (o219 + 1) fun p220 =>
                        callK Try.prog 16 [.leaf (.ptr p217)] w_214 (.one (.agg [.int .i64, .int .i64, .int .i64])) fun n221 n222 n223 w_224 =>
                        Mod D w_214 w_224 ∧
                        callK Try.prog 54 [.leaf (.ptr p220)] w_224 (.one (.agg [.int .i64, .int .i64, .int .i64])) fun n225 n226 n227 w_228 =>
                        Mod D w_214 w_228 ∧
                        opF Try.prog (vS (do eqGuard .eql 31 (.tmp 315) (.tmp 320) (.agg #[(LV.toV (.int .i64 n221)), (LV.toV (.int .i64 n222)), (LV.toV (.int .i64 n223))]) (.agg #[(LV.toV (.int .i64 n225)), (LV.toV (.int .i64 n226)), (LV.toV (.int .i64 n227))]); binOp .eql 31 (.agg #[(LV.toV (.int .i64 n221)), (LV.toV (.int .i64 n222)), (LV.toV (.int .i64 n223))]) (.agg #[(LV.toV (.int .i64 n225)), (LV.toV (.int .i64 n226)), (LV.toV (.int .i64 n227))]))) w_228 (.one (.leaf (.bool))) fun c230 w_229 =>
                        Mod D w_214 w_229 ∧
                        K c230 w_229)
                      (K true w_9)))))))))))

def N_winnowlaw5_World_told : Ann := (.mk none [] [] .done .nil (.mk none [] [] .done (.mk none [] [] .done .nil (.mk none [] [] .done (.mk none [] [] .done .nil (.mk none [] [] .done (.mk none [] [] .done (.mk none [] [] (.take 0 (.take 1 (.take 2 (.take 3 (.take 4 (.take 5 (.take 7 (.take 8 (.take 9 (.take 10 (.take 11 (.take 12 (.eff 6 (.eff 13 (.take 14 (.take 15 .done)))))))))))))))) .nil .nil) .nil) (.mk none [] [] .done .nil (.mk none [] [] .done .nil (.mk none [] [] .done .nil (.mk none [] [] .done (.mk none [] [] .done (.mk none [] [] (.take 0 (.take 1 (.take 2 (.take 3 (.take 4 (.take 5 (.take 7 (.take 8 (.take 9 (.take 10 (.take 11 (.take 12 (.eff 6 (.eff 13 (.take 14 (.take 15 .done)))))))))))))))) .nil .nil) .nil) (.mk none [] [] .done .nil (.mk none [] [] .done (.mk none [] [] .done (.mk none [] [] (.take 0 (.take 1 (.take 2 (.take 3 (.take 4 (.take 5 (.take 6 (.take 7 (.take 8 (.take 9 (.eff 10 (.take 11 (.take 12 (.take 13 (.take 14 (.take 15 .done)))))))))))))))) .nil .nil) (.mk none [] [] .done (.mk none [] [] (.take 0 (.take 1 (.take 2 (.take 3 (.take 4 (.take 5 (.take 6 (.take 7 (.take 8 (.take 9 (.eff 10 (.take 11 (.take 12 (.take 13 (.take 14 (.take 15 .done)))))))))))))))) .nil .nil) (.mk none [] [] .done (.mk none [] [] (.take 0 (.take 1 (.take 2 (.take 3 (.take 4 (.take 5 (.take 6 (.take 7 (.take 8 (.take 9 (.eff 10 (.take 11 (.take 12 (.take 13 (.take 14 (.take 15 .done)))))))))))))))) .nil .nil) (.mk none [] [] .done (.mk none [] [] (.take 0 (.take 1 (.take 2 (.take 3 (.take 4 (.take 5 (.take 6 (.take 7 (.take 8 (.take 9 (.eff 10 (.take 11 (.take 12 (.take 13 (.take 14 (.take 15 .done)))))))))))))))) .nil .nil) (.mk none [] [] .done (.mk (some [.tmp 13 (.leaf (.bool))]) [] [0, 5, 9, 11] .done .nil .nil) (.mk none [] [] .done .nil (.mk none [] [] .done (.mk (some [.tmp 13 (.leaf (.bool))]) [] [0, 9] .done .nil .nil) .nil))))))) (.mk none [] [] .done .nil (.mk none [] [] .done (.mk none [] [] .done (.mk none [] [] (.take 0 (.take 1 (.take 2 (.take 3 (.take 4 (.take 5 (.eff 6 (.take 7 (.take 8 (.take 9 (.take 10 (.take 11 .done)))))))))))) .nil .nil) (.mk none [] [] .done (.mk none [] [] (.take 0 (.take 1 (.take 2 (.take 3 (.take 4 (.take 5 (.eff 6 (.take 7 (.take 8 (.take 9 (.take 10 (.take 11 .done)))))))))))) .nil .nil) (.mk none [] [] .done (.mk (some [.tmp 4 (.leaf (.bool))]) [] [] .done .nil .nil) .nil))) (.mk none [] [] .done .nil (.mk none [] [] .done (.mk none [] [] .done (.mk none [] [] (.take 0 (.take 1 (.take 2 (.take 3 (.take 4 (.take 5 (.take 7 (.take 8 (.take 9 (.take 10 (.take 11 (.take 12 (.eff 6 (.eff 13 (.take 14 (.take 15 .done)))))))))))))))) .nil .nil) .nil) (.mk none [] [] .done .nil (.mk none [] [] .done (.mk none [] [] .done (.mk none [] [] (.take 0 (.take 1 (.take 2 (.take 3 (.take 4 (.take 5 (.eff 6 (.take 7 .done)))))))) .nil .nil) (.mk none [] [] .done (.mk none [] [] (.take 0 (.take 1 (.take 2 (.take 3 (.take 4 (.take 5 (.eff 6 (.take 7 .done)))))))) .nil .nil) (.mk none [] [] .done (.mk none [] [] (.take 0 (.take 1 (.take 2 (.take 3 (.take 4 (.take 5 (.eff 6 (.take 7 .done)))))))) .nil .nil) (.mk none [] [] .done .nil (.mk none [] [] .done .nil (.mk none [] [] .done (.mk (some [.tmp 21 (.leaf (.bool))]) [] [0, 19] .done .nil .nil) .nil)))))) (.mk none [] [] .done .nil (.mk none [] [] .done (.mk none [] [] .done (.mk none [] [] (.take 0 (.take 1 (.take 2 (.take 3 (.take 4 (.take 5 (.take 6 (.take 7 (.take 9 (.take 10 (.take 11 (.take 12 (.take 13 (.take 14 (.take 15 (.take 16 (.eff 8 (.eff 17 (.take 18 (.take 19 .done)))))))))))))))))))) .nil .nil) .nil) (.mk none [] [] .done .nil (.mk none [] [] .done (.mk none [] [] .done (.mk none [] [] (.take 0 (.take 1 (.take 2 (.take 3 (.take 4 (.take 5 (.take 6 (.take 7 (.take 8 (.take 9 (.take 11 (.take 12 (.take 13 (.take 14 (.take 15 (.take 16 (.take 17 (.take 18 (.take 19 (.take 20 (.eff 10 (.eff 21 (.take 22 (.take 23 .done)))))))))))))))))))))))) .nil .nil) .nil) (.mk none [] [] .done .nil (.mk none [] [] .done (.mk none [] [] .done (.mk none [] [] .done (.mk (some [.tmp 288 (.leaf (.bool))]) [] [0, 3] .done .nil .nil) (.mk (some []) [] [0, 3] .done .nil .nil)) (.mk none [] [] .done (.mk none [] [] (.take 0 (.take 1 (.take 2 (.take 3 (.take 4 (.take 5 (.take 6 (.take 7 (.take 9 (.take 10 (.take 11 (.take 12 (.take 13 (.take 14 (.take 15 (.take 16 (.eff 8 (.eff 17 (.take 18 (.take 19 .done)))))))))))))))))))) .nil .nil) .nil)) (.mk none [] [] .done .nil (.mk none [] [] .done (.mk none [] [] .done (.mk none [] [] (.take 0 (.take 1 (.take 2 (.take 3 (.take 5 (.take 6 (.take 7 (.take 8 (.eff 4 (.eff 9 (.eff 10 (.take 11 .done)))))))))))) .nil .nil) .nil) .nil)))))))))))))))))))))) .nil)) .nil))

theorem is_winnowlaw5_World_told (w_1 : PA) (x_0_2 : Int) (x_1_3 : List UInt8) (x_2_4 : Int) (x_3_5 : Int) (x_4_6 : Sl) (x_5_7 : Int) (K : Bool → World → Prop) (w : World) : WF Try.prog CS Try.f25 N_winnowlaw5_World_told (.one (.leaf (.bool))) [.leaf (.ptr w_1), .agg [.int .i64 x_0_2, .str x_1_3, .int .i64 x_2_4, .int .i64 x_3_5, .sl x_4_6, .int .u32 x_5_7]] K w = S_winnowlaw5_World_told w_1 x_0_2 x_1_3 x_2_4 x_3_5 x_4_6 x_5_7 K w := by kernel_rfl
theorem go_winnowlaw5_World_told (w_1 : PA) (x_0_2 : Int) (x_1_3 : List UInt8) (x_2_4 : Int) (x_3_5 : Int) (x_4_6 : Sl) (x_5_7 : Int) (K : Bool → World → Prop) (w : World) (h : S_winnowlaw5_World_told w_1 x_0_2 x_1_3 x_2_4 x_3_5 x_4_6 x_5_7 K w) : callK Try.prog 25 [.leaf (.ptr w_1), .agg [.int .i64 x_0_2, .str x_1_3, .int .i64 x_2_4, .int .i64 x_3_5, .sl x_4_6, .int .u32 x_5_7]] w (.one (.leaf (.bool))) K := by
  refine WF_sound (n := N_winnowlaw5_World_told) CS_ok mixed Try.func25 ?_
  rw [is_winnowlaw5_World_told]
  exact h

-- 40 (*winnow/winnowref5.Store).Create
def S_winnowref5_Store_Create (s1 : PA) (name2 : List UInt8) (K : Int → World → Prop) (w : World) : Prop :=
  callK Try.prog 61 [.leaf (.ptr s1), .leaf (.str name2)] w (.tup [.leaf (.int .i64), .leaf (.int .i64)]) fun n3 n4 w_5 =>
  ifK (n4 == 0)
  (K 51 w_5)
  (ifK (n4 != 52)
    (K n4 w_5)
    (joinK [.int .i64] (fun k6 =>
        loopL [.int .i64] (fun n8 w_9 again7 =>
          joinK [.bool] (fun k10 =>
            dr s1 fun b11 o12 =>
            ld w_9 .sl b11 o12 fun a13 =>
            ifK (decide (n8 < (a13.len : Int)))
            (dr s1 fun b14 o15 =>
              ld w_9 .sl b14 o15 fun a16 =>
              ix a16 6 n8 fun b17 o18 =>
              ld w_9 .str b17 o18 fun s19 =>
              k10 (Op.bytesLess s19 name2) w_9)
            (k10 false w_9)) fun t3820 w_21 =>
          ifK t3820
          (again7 (w64 (n8 + 1)) w_21)
          (k6 n8 w_21)) [.int .i64 0] w_5) fun n22 w_23 =>
      dr s1 fun b24 o25 =>
      ld w_23 .sl b24 o25 fun a26 =>
      slx a26 6 none (some n22) none fun s27 =>
      ap w_23 106 6 56 [.str [], .sl (⟨none, 0, 0⟩), .lit false, .lit false, .lit false, .int .i64 0] (⟨none, 0, 0⟩) s27 fun a28 w_29 =>
      al w_29 106 [.str name2, .sl (⟨none, 0, 0⟩), .lit false, .lit false, .lit false, .int .i64 0] fun b30 w_31 =>
      ap w_31 106 6 56 [.str [], .sl (⟨none, 0, 0⟩), .lit false, .lit false, .lit false, .int .i64 0] a28 (⟨some (b30, 0), 1, 1⟩) fun a32 w_33 =>
      dr s1 fun b34 o35 =>
      ld w_33 .sl b34 o35 fun a36 =>
      slx a36 6 (some n22) none none fun s37 =>
      ap w_33 106 6 56 [.str [], .sl (⟨none, 0, 0⟩), .lit false, .lit false, .lit false, .int .i64 0] a32 s37 fun a38 w_39 =>
      dr s1 fun b40 o41 =>
      st w_39 b40 o41 [.sl a38] fun w_42 =>
      K 0 w_42))

def N_winnowref5_Store_Create : Ann := (.mk none [] [] .done .nil (.mk none [] [] .done .nil (.mk none [] [] .done .nil (.mk none [] [] .done .nil (.mk none [] [] .done .nil (.mk none [] [] .done (.mk (some [.tmp 7 (.leaf (.int .i64))]) [] [0, 1] .done (.mk none [.tmp 7 (.leaf (.int .i64))] [0, 1] .done (.mk none [] [] .done (.mk none [] [] .done (.mk (some [.tmp 38 (.leaf (.bool))]) [] [0, 1, 7] .done .nil .nil) .nil) .nil) .nil) .nil) .nil))))))

theorem is_winnowref5_Store_Create (s1 : PA) (name2 : List UInt8) (K : Int → World → Prop) (w : World) : WF Try.prog CS Try.f40 N_winnowref5_Store_Create (.one (.leaf (.int .i64))) [.leaf (.ptr s1), .leaf (.str name2)] K w = S_winnowref5_Store_Create s1 name2 K w := by kernel_rfl
theorem go_winnowref5_Store_Create (s1 : PA) (name2 : List UInt8) (K : Int → World → Prop) (w : World) (h : S_winnowref5_Store_Create s1 name2 K w) : callK Try.prog 40 [.leaf (.ptr s1), .leaf (.str name2)] w (.one (.leaf (.int .i64))) K := by
  refine WF_sound (n := N_winnowref5_Store_Create) CS_ok mixed Try.func40 ?_
  rw [is_winnowref5_Store_Create]
  exact h

-- 41 (*winnow/winnowlaw5.World).appended
def S_winnowlaw5_World_appended (w_1 : PA) (x_0_2 : Int) (x_1_3 : List UInt8) (x_2_4 : Int) (x_3_5 : Int) (x_4_6 : Sl) (x_5_7 : Int) (K : Bool → World → Prop) (w : World) : Prop :=
  al w 62 [.int .i64 x_0_2, .str x_1_3, .int .i64 x_2_4, .int .i64 x_3_5, .sl x_4_6, .int .u32 x_5_7] fun b8 w_9 =>
  ld w_9 .sl b8 4 fun a10 =>
  mk w_9 5 1 [.int .u8 0] (w64 ((a10.len : Int) + 8)) (w64 ((a10.len : Int) + 8)) fun a11 w_12 =>
  joinK [] (fun k13 =>
    loopL [.int .i64] (fun i15 w_16 again14 =>
      ifK (decide (i15 < (a11.len : Int)))
      (ix a11 1 i15 fun b17 o18 =>
        st w_16 b17 o18 [.int .u8 92] fun w_19 =>
        ld w_19 .sl b8 4 fun a20 =>
        joinK [] (fun k21 =>
          ifK (decide (i15 < (a20.len : Int)))
          (ld w_19 .sl b8 4 fun a22 =>
            ix a22 1 i15 fun b23 o24 =>
            ld w_19 (.int .u8) b23 o24 fun n25 =>
            ix a11 1 i15 fun b26 o27 =>
            st w_19 b26 o27 [.int .u8 n25] fun w_28 =>
            k21 w_28)
          (k21 w_19)) fun w_29 =>
        again14 (w64 (i15 + 1)) w_29)
      (k13 w_16)) [.int .i64 0] w_12) fun w_30 =>
  drawK w_30 fun D w_31 =>
  dr w_1 fun b32 o33 =>
  ldD D w_31 .ptr b32 o33 fun p34 =>
  ldD D w_31 .str b8 1 fun s35 =>
  ldD D w_31 .sl b8 4 fun a36 =>
  slx a11 1 none (some (a36.len : Int)) none fun s37 =>
  callK Try.prog 12 [.leaf (.ptr p34), .leaf (.str s35), .leaf (.sl s37)] w_31 (.one (.leaf (.int .i64))) fun n38 w_39 =>
  Mod D w_31 w_39 ∧
  drawK w_39 fun D w_40 =>
  dr w_1 fun b41 o42 =>
  ldD D w_40 .ptr b41 (o42 + 1) fun p43 =>
  ldD D w_40 .str b8 1 fun s44 =>
  ldD D w_40 .sl b8 4 fun a45 =>
  callK Try.prog 62 [.leaf (.ptr p43), .leaf (.str s44), .leaf (.sl a45)] w_40 (.one (.leaf (.int .i64))) fun n46 w_47 =>
  Mod D w_40 w_47 ∧
  joinK [] (fun k48 =>
    loopL [.int .i64] (fun i50 w_51 again49 =>
      ifK (decide (i50 < (a11.len : Int)))
      (joinK [.bool] (fun k52 =>
          drawK w_51 fun D w_53 =>
          ldD D w_53 .sl b8 4 fun a54 =>
          ifK (decide (i50 < (a54.len : Int)))
          (ix a11 1 i50 fun b55 o56 =>
            ldD D w_53 (.int .u8) b55 o56 fun n57 =>
            ldD D w_53 .sl b8 4 fun a58 =>
            ix a58 1 i50 fun b59 o60 =>
            ldD D w_53 (.int .u8) b59 o60 fun n61 =>
            ifK (n57 != n61)
            (k52 true w_53)
            (ldD D w_53 .sl b8 4 fun a62 =>
              ifK (decide ((a62.len : Int) ≤ i50))
              (ix a11 1 i50 fun b63 o64 =>
                ldD D w_53 (.int .u8) b63 o64 fun n65 =>
                k52 (n65 != 92) w_53)
              (k52 false w_53)))
          (ldD D w_53 .sl b8 4 fun a66 =>
            ifK (decide ((a66.len : Int) ≤ i50))
            (ix a11 1 i50 fun b67 o68 =>
              ldD D w_53 (.int .u8) b67 o68 fun n69 =>
              k52 (n69 != 92) w_53)
            (k52 false w_53))) fun t9470 w_71 =>
        ifK t9470
        (K false w_71)
        (ix a11 1 i50 fun b72 o73 =>
          st w_71 b72 o73 [.int .u8 93] fun w_74 =>
          again49 (w64 (i50 + 1)) w_74))
      (k48 w_51)) [.int .i64 0] w_47) fun w_75 =>
  K (n38 == n46) w_75

def N_winnowlaw5_World_appended : Ann := (.mk none [] [] .done .nil (.mk none [] [] .done .nil (.mk none [] [] .done (.mk none [] [] .done .nil (.mk (some []) [] [0, 3, 5] .done (.mk none [.tmp 6 (.leaf (.int .i64))] [0, 3, 5] .done (.mk none [] [] .done .nil (.mk none [] [] .done (.mk none [] [] .done (.mk none [] [] .done .nil (.mk none [] [] .done .nil (.mk (some []) [] [0, 3, 5, 6] .done .nil .nil))) .nil) .nil)) .nil) .nil)) (.mk none [] [] .done (.mk none [] [] (.take 0 (.take 1 (.take 2 (.take 3 (.take 4 (.take 5 (.take 6 (.take 7 (.take 8 (.take 9 (.take 10 (.eff 11 (.take 12 .done))))))))))))) .nil .nil) (.mk none [] [] .done (.mk none [] [] (.take 0 (.take 1 (.take 2 (.take 3 (.take 4 (.take 5 (.take 6 (.take 7 (.eff 8 (.take 9 .done)))))))))) .nil .nil) (.mk none [] [] .done (.mk none [] [] .done .nil (.mk (some []) [] [7, 8] .done (.mk none [.tmp 9 (.leaf (.int .i64))] [3, 5, 7, 8] .done (.mk none [] [] .done .nil (.mk none [] [] .done (.mk none [] [] .done (.mk none [] [] .done (.mk none [] [] .done (.mk (some [.tmp 94 (.leaf (.bool))]) [] [3, 5, 7, 8, 9] (.take 0 (.take 1 (.take 2 (.take 3 (.take 4 (.take 5 (.split 5 (.take 6 (.take 7 (.take 8 (.take 9 (.take 10 (.take 11 (.take 12 (.take 13 (.take 14 (.take 15 (.take 16 (.take 17 (.split 17 (.take 18 (.take 19 (.take 20 (.take 21 (.take 22 (.take 23 (.take 24 (.take 25 (.take 26 (.take 27 (.take 28 (.take 29 (.take 30 .done))))))))))))) (.take 18 (.take 19 (.take 20 (.take 21 (.take 22 (.take 23 (.split 23 (.take 24 (.take 25 (.take 26 (.take 27 (.take 28 (.take 29 (.take 30 .done))))))) (.take 24 (.take 25 (.take 26 (.take 27 (.take 28 (.take 29 (.take 30 .done))))))))))))))))))))))))))) (.take 6 (.take 7 (.take 8 (.take 9 (.take 10 (.take 11 (.take 12 (.take 13 (.take 14 (.take 15 (.take 16 (.take 17 (.take 18 (.take 19 (.take 20 (.take 21 (.take 22 (.take 23 (.split 23 (.take 24 (.take 25 (.take 26 (.take 27 (.take 28 (.take 29 (.take 30 .done))))))) (.take 24 (.take 25 (.take 26 (.take 27 (.take 28 (.take 29 (.take 30 .done))))))))))))))))))))))))))))))))) .nil .nil) .nil) .nil) .nil) .nil)) .nil) .nil)) .nil))))))

theorem is_winnowlaw5_World_appended (w_1 : PA) (x_0_2 : Int) (x_1_3 : List UInt8) (x_2_4 : Int) (x_3_5 : Int) (x_4_6 : Sl) (x_5_7 : Int) (K : Bool → World → Prop) (w : World) : WF Try.prog CS Try.f41 N_winnowlaw5_World_appended (.one (.leaf (.bool))) [.leaf (.ptr w_1), .agg [.int .i64 x_0_2, .str x_1_3, .int .i64 x_2_4, .int .i64 x_3_5, .sl x_4_6, .int .u32 x_5_7]] K w = S_winnowlaw5_World_appended w_1 x_0_2 x_1_3 x_2_4 x_3_5 x_4_6 x_5_7 K w := by kernel_rfl
theorem go_winnowlaw5_World_appended (w_1 : PA) (x_0_2 : Int) (x_1_3 : List UInt8) (x_2_4 : Int) (x_3_5 : Int) (x_4_6 : Sl) (x_5_7 : Int) (K : Bool → World → Prop) (w : World) (h : S_winnowlaw5_World_appended w_1 x_0_2 x_1_3 x_2_4 x_3_5 x_4_6 x_5_7 K w) : callK Try.prog 41 [.leaf (.ptr w_1), .agg [.int .i64 x_0_2, .str x_1_3, .int .i64 x_2_4, .int .i64 x_3_5, .sl x_4_6, .int .u32 x_5_7]] w (.one (.leaf (.bool))) K := by
  refine WF_sound (n := N_winnowlaw5_World_appended) CS_ok mixed Try.func41 ?_
  rw [is_winnowlaw5_World_appended]
  exact h

-- 42 (*winnow/winnowref5.Store).Publish
def S_winnowref5_Store_Publish (s1 : PA) (name2 : List UInt8) (K : Int → World → Prop) (w : World) : Prop :=
  callK Try.prog 61 [.leaf (.ptr s1), .leaf (.str name2)] w (.tup [.leaf (.int .i64), .leaf (.int .i64)]) fun n3 n4 w_5 =>
  ifK (n4 != 0)
  (K n4 w_5)
  (dr s1 fun b6 o7 =>
    ld w_5 .sl b6 o7 fun a8 =>
    ix a8 6 n3 fun b9 o10 =>
    dr (some (b9, o10)) fun b11 o12 =>
    ld w_5 .bool b11 (o12 + 2) fun c13 =>
    ifK c13
    (K 54 w_5)
    (dr (some (b9, o10)) fun b14 o15 =>
      ld w_5 .bool b14 (o15 + 4) fun c16 =>
      ifK c16
      (dr (some (b9, o10)) fun b17 o18 =>
        st w_5 b17 (o18 + 3) [.lit true] fun w_19 =>
        K 55 w_19)
      (dr (some (b9, o10)) fun b20 o21 =>
        st w_5 b20 (o21 + 2) [.lit true] fun w_22 =>
        K 0 w_22)))

def N_winnowref5_Store_Publish : Ann := .nil

theorem is_winnowref5_Store_Publish (s1 : PA) (name2 : List UInt8) (K : Int → World → Prop) (w : World) : WF Try.prog CS Try.f42 N_winnowref5_Store_Publish (.one (.leaf (.int .i64))) [.leaf (.ptr s1), .leaf (.str name2)] K w = S_winnowref5_Store_Publish s1 name2 K w := by kernel_rfl
theorem go_winnowref5_Store_Publish (s1 : PA) (name2 : List UInt8) (K : Int → World → Prop) (w : World) (h : S_winnowref5_Store_Publish s1 name2 K w) : callK Try.prog 42 [.leaf (.ptr s1), .leaf (.str name2)] w (.one (.leaf (.int .i64))) K := by
  refine WF_sound (n := N_winnowref5_Store_Publish) CS_ok mixed Try.func42 ?_
  rw [is_winnowref5_Store_Publish]
  exact h

-- 43 (*winnow/winnowref5.Store).Read
def S_winnowref5_Store_Read (s1 : PA) (name2 : List UInt8) (at_3 : Int) (n4 : Int) (K : Sl → Int → World → Prop) (w : World) : Prop :=
  callK Try.prog 61 [.leaf (.ptr s1), .leaf (.str name2)] w (.tup [.leaf (.int .i64), .leaf (.int .i64)]) fun n5 n6 w_7 =>
  joinK [.bool] (fun k8 =>
    ifK (n6 == 1)
    (k8 true w_7)
    (k8 (n6 == 50) w_7)) fun t259 w_10 =>
  ifK t259
  (K (⟨none, 0, 0⟩) n6 w_10)
  (ifK (decide (n4 < 0))
    (K (⟨none, 0, 0⟩) 3 w_10)
    (ifK (n6 != 0)
      (K (⟨none, 0, 0⟩) n6 w_10)
      (dr s1 fun b11 o12 =>
        ld w_10 .sl b11 o12 fun a13 =>
        ix a13 6 n5 fun b14 o15 =>
        ld w_10 .bool b14 (o15 + 2) fun c16 =>
        ifK (!c16)
        (K (⟨none, 0, 0⟩) 53 w_10)
        (dr s1 fun b17 o18 =>
          ld w_10 .sl b17 o18 fun a19 =>
          ix a19 6 n5 fun b20 o21 =>
          ld w_10 .sl b20 (o21 + 1) fun a22 =>
          joinK [.bool] (fun k23 =>
            ifK (decide (at_3 < 0))
            (k23 true w_10)
            (k23 (decide ((a22.len : Int) < at_3)) w_10)) fun t5624 w_25 =>
          ifK t5624
          (K (⟨none, 0, 0⟩) 56 w_25)
          (joinK [.int .i64] (fun k26 =>
              ifK (decide (w64 ((a22.len : Int) - at_3) < n4))
              (k26 (w64 ((a22.len : Int) - at_3)) w_25)
              (k26 n4 w_25)) fun n27 w_28 =>
            dr s1 fun b29 o30 =>
            ld w_28 .sl b29 o30 fun a31 =>
            ix a31 6 n5 fun b32 o33 =>
            ld w_28 .sl b32 (o33 + 1) fun a34 =>
            slx a34 1 (some at_3) (some (w64 (at_3 + n27))) none fun s35 =>
            ap w_28 5 1 1 [.int .u8 0] (⟨none, 0, 0⟩) s35 fun a36 w_37 =>
            dr s1 fun b38 o39 =>
            ld w_37 (.int .i64) b38 (o39 + 1) fun n40 =>
            dr s1 fun b41 o42 =>
            st w_37 b41 (o42 + 1) [.int .i64 (w64 (n40 + 1))] fun w_43 =>
            dr s1 fun b44 o45 =>
            ld w_43 (.int .i64) b44 (o45 + 1 + 1) fun n46 =>
            dr s1 fun b47 o48 =>
            st w_43 b47 (o48 + 1 + 1) [.int .i64 (w64 (n46 + n27))] fun w_49 =>
            dr s1 fun b50 o51 =>
            ld w_49 (.int .i64) b50 (o51 + 1 + 2) fun n52 =>
            joinK [] (fun k53 =>
              ifK (decide (n52 < n27))
              (dr s1 fun b54 o55 =>
                st w_49 b54 (o55 + 1 + 2) [.int .i64 n27] fun w_56 =>
                k53 w_56)
              (k53 w_49)) fun w_57 =>
            K a36 0 w_57)))))

def N_winnowref5_Store_Read : Ann := (.mk none [] [] .done .nil (.mk none [] [] .done .nil (.mk none [] [] .done (.mk none [] [] .done (.mk (some [.tmp 25 (.leaf (.bool))]) [] [0, 2, 3, 10, 11] .done .nil .nil) .nil) (.mk none [] [] .done .nil (.mk none [] [] .done .nil (.mk none [] [] .done .nil (.mk none [] [] .done .nil (.mk none [] [] .done (.mk none [] [] .done (.mk (some [.tmp 56 (.leaf (.bool))]) [] [0, 2, 3, 10, 12] .done .nil .nil) .nil) (.mk none [] [] .done (.mk none [] [] .done .nil (.mk (some [.tmp 3 (.leaf (.int .i64))]) [] [0, 2, 10] .done .nil .nil)) (.mk none [] [] .done .nil (.mk none [] [] .done .nil (.mk none [] [] .done .nil (.mk none [] [] .done .nil (.mk none [] [] .done (.mk none [] [] .done .nil (.mk (some []) [] [13] .done .nil .nil)) .nil))))))))))))))

theorem is_winnowref5_Store_Read (s1 : PA) (name2 : List UInt8) (at_3 : Int) (n4 : Int) (K : Sl → Int → World → Prop) (w : World) : WF Try.prog CS Try.f43 N_winnowref5_Store_Read (.tup [.leaf (.sl), .leaf (.int .i64)]) [.leaf (.ptr s1), .leaf (.str name2), .leaf (.int .i64 at_3), .leaf (.int .i64 n4)] K w = S_winnowref5_Store_Read s1 name2 at_3 n4 K w := by kernel_rfl
theorem go_winnowref5_Store_Read (s1 : PA) (name2 : List UInt8) (at_3 : Int) (n4 : Int) (K : Sl → Int → World → Prop) (w : World) (h : S_winnowref5_Store_Read s1 name2 at_3 n4 K w) : callK Try.prog 43 [.leaf (.ptr s1), .leaf (.str name2), .leaf (.int .i64 at_3), .leaf (.int .i64 n4)] w (.tup [.leaf (.sl), .leaf (.int .i64)]) K := by
  refine WF_sound (n := N_winnowref5_Store_Read) CS_ok mixed Try.func43 ?_
  rw [is_winnowref5_Store_Read]
  exact h

-- 44 (*winnow/winnowlaw5.World).keepBytes
def S_winnowlaw5_World_keepBytes (w_1 : PA) (b2 : Sl) (K : World → Prop) (w : World) : Prop :=
  dr w_1 fun b3 o4 =>
  ld w .sl b3 (o4 + 2) fun a5 =>
  joinK [] (fun k6 =>
    loopL [.int .i64] (fun i8 w_9 again7 =>
      ifK (decide (i8 < (b2.len : Int)))
      (ix b2 1 i8 fun b10 o11 =>
        st w_9 b10 o11 [.int .u8 (IntKind.wrap .u8 ((a5.len : Int).tmod 199))] fun w_12 =>
        again7 (w64 (i8 + 1)) w_12)
      (k6 w_9)) [.int .i64 0] w) fun w_13 =>
  dr w_1 fun b14 o15 =>
  ld w_13 .sl b14 (o15 + 2) fun a16 =>
  al w_13 22 [.sl b2] fun b17 w_18 =>
  ap w_18 22 1 24 [.sl (⟨none, 0, 0⟩)] a16 (⟨some (b17, 0), 1, 1⟩) fun a19 w_20 =>
  dr w_1 fun b21 o22 =>
  st w_20 b21 (o22 + 2) [.sl a19] fun w_23 =>
  joinK [.sl] (fun k24 =>
    loopL [.sl, .int .i64] (fun b26 i27 w_28 again25 =>
      ifK (decide (i27 < 64))
      (al w_28 5 [.int .u8 (IntKind.wrap .u8 (w64 (200 + ((a5.len : Int).tmod 55))))] fun b29 w_30 =>
        ap w_30 5 1 1 [.int .u8 0] b26 (⟨some (b29, 0), 1, 1⟩) fun a31 w_32 =>
        again25 a31 (w64 (i27 + 1)) w_32)
      (k24 b26 w_28)) [.sl b2, .int .i64 0] w_23) fun b33 w_34 =>
  dr w_1 fun b35 o36 =>
  ld w_34 .sl b35 (o36 + 4) fun a37 =>
  al w_34 22 [.sl b33] fun b38 w_39 =>
  ap w_39 22 1 24 [.sl (⟨none, 0, 0⟩)] a37 (⟨some (b38, 0), 1, 1⟩) fun a40 w_41 =>
  dr w_1 fun b42 o43 =>
  st w_41 b42 (o43 + 4) [.sl a40] fun w_44 =>
  K w_44

def N_winnowlaw5_World_keepBytes : Ann := (.mk none [] [] .done .nil (.mk none [] [] .done (.mk none [] [] .done .nil (.mk (some []) [] [0, 1, 4] .done (.mk none [.tmp 5 (.leaf (.int .i64))] [0, 1, 4] .done .nil .nil) .nil)) (.mk none [] [] .done .nil (.mk none [] [] .done (.mk none [] [] .done .nil (.mk (some [.tmp 1 (.leaf (.sl))]) [] [0] .done (.mk none [.tmp 1 (.leaf (.sl)), .tmp 6 (.leaf (.int .i64))] [0, 4] .done .nil .nil) .nil)) .nil))))

theorem is_winnowlaw5_World_keepBytes (w_1 : PA) (b2 : Sl) (K : World → Prop) (w : World) : WF Try.prog CS Try.f44 N_winnowlaw5_World_keepBytes (.tup []) [.leaf (.ptr w_1), .leaf (.sl b2)] K w = S_winnowlaw5_World_keepBytes w_1 b2 K w := by kernel_rfl
theorem go_winnowlaw5_World_keepBytes (w_1 : PA) (b2 : Sl) (K : World → Prop) (w : World) (h : S_winnowlaw5_World_keepBytes w_1 b2 K w) : callK Try.prog 44 [.leaf (.ptr w_1), .leaf (.sl b2)] w (.tup []) K := by
  refine WF_sound (n := N_winnowlaw5_World_keepBytes) CS_ok mixed Try.func44 ?_
  rw [is_winnowlaw5_World_keepBytes]
  exact h

-- 45 (*winnow/winnowref5.Store).Size
def S_winnowref5_Store_Size (s1 : PA) (name2 : List UInt8) (K : Int → Int → World → Prop) (w : World) : Prop :=
  callK Try.prog 61 [.leaf (.ptr s1), .leaf (.str name2)] w (.tup [.leaf (.int .i64), .leaf (.int .i64)]) fun n3 n4 w_5 =>
  ifK (n4 != 0)
  (K 0 n4 w_5)
  (dr s1 fun b6 o7 =>
    ld w_5 .sl b6 o7 fun a8 =>
    ix a8 6 n3 fun b9 o10 =>
    ld w_5 .bool b9 (o10 + 2) fun c11 =>
    ifK (!c11)
    (K 0 53 w_5)
    (dr s1 fun b12 o13 =>
      ld w_5 .sl b12 o13 fun a14 =>
      ix a14 6 n3 fun b15 o16 =>
      ld w_5 .sl b15 (o16 + 1) fun a17 =>
      K (a17.len : Int) 0 w_5))

def N_winnowref5_Store_Size : Ann := .nil

theorem is_winnowref5_Store_Size (s1 : PA) (name2 : List UInt8) (K : Int → Int → World → Prop) (w : World) : WF Try.prog CS Try.f45 N_winnowref5_Store_Size (.tup [.leaf (.int .i64), .leaf (.int .i64)]) [.leaf (.ptr s1), .leaf (.str name2)] K w = S_winnowref5_Store_Size s1 name2 K w := by kernel_rfl
theorem go_winnowref5_Store_Size (s1 : PA) (name2 : List UInt8) (K : Int → Int → World → Prop) (w : World) (h : S_winnowref5_Store_Size s1 name2 K w) : callK Try.prog 45 [.leaf (.ptr s1), .leaf (.str name2)] w (.tup [.leaf (.int .i64), .leaf (.int .i64)]) K := by
  refine WF_sound (n := N_winnowref5_Store_Size) CS_ok mixed Try.func45 ?_
  rw [is_winnowref5_Store_Size]
  exact h

-- 47 (*winnow/winnowref5.Store).Delete
def S_winnowref5_Store_Delete (s1 : PA) (name2 : List UInt8) (K : Int → World → Prop) (w : World) : Prop :=
  callK Try.prog 61 [.leaf (.ptr s1), .leaf (.str name2)] w (.tup [.leaf (.int .i64), .leaf (.int .i64)]) fun n3 n4 w_5 =>
  ifK (n4 != 0)
  (K n4 w_5)
  (dr s1 fun b6 o7 =>
    ld w_5 .sl b6 o7 fun a8 =>
    slx a8 6 none (some n3) none fun s9 =>
    ap w_5 106 6 56 [.str [], .sl (⟨none, 0, 0⟩), .lit false, .lit false, .lit false, .int .i64 0] (⟨none, 0, 0⟩) s9 fun a10 w_11 =>
    dr s1 fun b12 o13 =>
    ld w_11 .sl b12 o13 fun a14 =>
    slx a14 6 (some (w64 (n3 + 1))) none none fun s15 =>
    ap w_11 106 6 56 [.str [], .sl (⟨none, 0, 0⟩), .lit false, .lit false, .lit false, .int .i64 0] a10 s15 fun a16 w_17 =>
    dr s1 fun b18 o19 =>
    st w_17 b18 o19 [.sl a16] fun w_20 =>
    K 0 w_20)

def N_winnowref5_Store_Delete : Ann := .nil

theorem is_winnowref5_Store_Delete (s1 : PA) (name2 : List UInt8) (K : Int → World → Prop) (w : World) : WF Try.prog CS Try.f47 N_winnowref5_Store_Delete (.one (.leaf (.int .i64))) [.leaf (.ptr s1), .leaf (.str name2)] K w = S_winnowref5_Store_Delete s1 name2 K w := by kernel_rfl
theorem go_winnowref5_Store_Delete (s1 : PA) (name2 : List UInt8) (K : Int → World → Prop) (w : World) (h : S_winnowref5_Store_Delete s1 name2 K w) : callK Try.prog 47 [.leaf (.ptr s1), .leaf (.str name2)] w (.one (.leaf (.int .i64))) K := by
  refine WF_sound (n := N_winnowref5_Store_Delete) CS_ok mixed Try.func47 ?_
  rw [is_winnowref5_Store_Delete]
  exact h

-- 48 (*winnow/winnowref5.Store).List
def S_winnowref5_Store_List (s1 : PA) (prefix_2 : List UInt8) (K : Sl → World → Prop) (w : World) : Prop :=
  ifK s1.isNone
  (K (⟨none, 0, 0⟩) w)
  (joinK [.sl] (fun k3 =>
      loopL [.sl, .int .i64] (fun l5 i6 w_7 again4 =>
        dr s1 fun b8 o9 =>
        ld w_7 .sl b8 o9 fun a10 =>
        ifK (decide (i6 < (a10.len : Int)))
        (joinK [.sl] (fun k11 =>
            dr s1 fun b12 o13 =>
            ld w_7 .sl b12 o13 fun a14 =>
            ix a14 6 i6 fun b15 o16 =>
            ld w_7 .str b15 o16 fun s17 =>
            ld w_7 .sl b15 (o16 + 1) fun a18 =>
            ld w_7 .bool b15 (o16 + 2) fun c19 =>
            ld w_7 .bool b15 (o16 + 3) fun c20 =>
            ld w_7 .bool b15 (o16 + 4) fun c21 =>
            ld w_7 (.int .i64) b15 (o16 + 5) fun n22 =>
            al w_7 106 [.str [], .sl (⟨none, 0, 0⟩), .lit false, .lit false, .lit false, .int .i64 0] fun b23 w_24 =>
            st w_24 b23 0 [.str s17, .sl a18, .bool c19, .bool c20, .bool c21, .int .i64 n22] fun w_25 =>
            joinK [.bool] (fun k26 =>
              ld w_25 .str b23 0 fun s27 =>
              ifK (decide ((s27.length : Int) < (prefix_2.length : Int)))
              (k26 true w_25)
              (ld w_25 .str b23 0 fun s28 =>
                ssx s28 none (some (prefix_2.length : Int)) fun s29 =>
                k26 (!(s29 == prefix_2)) w_25)) fun t4230 w_31 =>
            ifK t4230
            (k11 l5 w_31)
            (ld w_31 .bool b23 2 fun c32 =>
              joinK [.int .i64] (fun k33 =>
                ifK c32
                (k33 2 w_31)
                (k33 1 w_31)) fun state34 w_35 =>
              ld w_35 .str b23 0 fun s36 =>
              ld w_35 .sl b23 1 fun a37 =>
              al w_35 59 [.str s36, .int .i64 state34, .int .i64 (a37.len : Int)] fun b38 w_39 =>
              ap w_39 59 3 32 [.str [], .int .i64 0, .int .i64 0] l5 (⟨some (b38, 0), 1, 1⟩) fun a40 w_41 =>
              k11 a40 w_41)) fun l42 w_43 =>
          again4 l42 (w64 (i6 + 1)) w_43)
        (k3 l5 w_7)) [.sl (⟨none, 0, 0⟩), .int .i64 0] w) fun l44 w_45 =>
    K l44 w_45)

def N_winnowref5_Store_List : Ann := (.mk none [] [] .done .nil (.mk none [] [] .done .nil (.mk none [] [] .done .nil (.mk none [] [] .done (.mk none [] [] .done .nil (.mk (some [.tmp 5 (.leaf (.sl))]) [] [] .done (.mk none [.tmp 5 (.leaf (.sl)), .tmp 6 (.leaf (.int .i64))] [0, 1] .done (.mk none [] [] .done .nil (.mk none [] [] .done (.mk (some [.tmp 5 (.leaf (.sl))]) [] [0, 1, 6] .done (.mk none [] [] .done .nil (.mk none [] [] .done (.mk none [] [] .done (.mk (some [.tmp 42 (.leaf (.bool))]) [] [0, 1, 5, 6, 7] .done .nil .nil) .nil) (.mk none [] [] .done .nil (.mk none [] [] .done (.mk none [] [] .done .nil (.mk (some [.tmp 8 (.leaf (.int .i64))]) [] [0, 1, 5, 6, 7] .done .nil .nil)) .nil)))) .nil) .nil)) .nil) .nil)) .nil))))

theorem is_winnowref5_Store_List (s1 : PA) (prefix_2 : List UInt8) (K : Sl → World → Prop) (w : World) : WF Try.prog CS Try.f48 N_winnowref5_Store_List (.one (.leaf (.sl))) [.leaf (.ptr s1), .leaf (.str prefix_2)] K w = S_winnowref5_Store_List s1 prefix_2 K w := by kernel_rfl
theorem go_winnowref5_Store_List (s1 : PA) (prefix_2 : List UInt8) (K : Sl → World → Prop) (w : World) (h : S_winnowref5_Store_List s1 prefix_2 K w) : callK Try.prog 48 [.leaf (.ptr s1), .leaf (.str prefix_2)] w (.one (.leaf (.sl))) K := by
  refine WF_sound (n := N_winnowref5_Store_List) CS_ok mixed Try.func48 ?_
  rw [is_winnowref5_Store_List]
  exact h

-- 49 winnow/winnowlaw5.sameList
def S_winnowlaw5_sameList (a1 : Sl) (b2 : Sl) (K : Bool → World → Prop) (w : World) : Prop :=
  ifK ((a1.len : Int) != (b2.len : Int))
  (K false w)
  (joinK [] (fun k3 =>
      loopL [.int .i64] (fun i5 w_6 again4 =>
        ifK (decide (i5 < (a1.len : Int)))
        (drawK w_6 fun D w_7 =>
          ix a1 3 i5 fun b8 o9 =>
          ldD D w_7 .str b8 o9 fun s10 =>
          ldD D w_7 (.int .i64) b8 (o9 + 1) fun n11 =>
          ldD D w_7 (.int .i64) b8 (o9 + 2) fun n12 =>
          ix b2 3 i5 fun b13 o14 =>
          ldD D w_7 .str b13 o14 fun s15 =>
          ldD D w_7 (.int .i64) b13 (o14 + 1) fun n16 =>
          ldD D w_7 (.int .i64) b13 (o14 + 2) fun n17 =>
          opF Try.prog (vS (do eqGuard .neq 59 (.tmp 20) (.tmp 24) (.agg #[(LV.toV (.str s10)), (LV.toV (.int .i64 n11)), (LV.toV (.int .i64 n12))]) (.agg #[(LV.toV (.str s15)), (LV.toV (.int .i64 n16)), (LV.toV (.int .i64 n17))]); binOp .neq 59 (.agg #[(LV.toV (.str s10)), (LV.toV (.int .i64 n11)), (LV.toV (.int .i64 n12))]) (.agg #[(LV.toV (.str s15)), (LV.toV (.int .i64 n16)), (LV.toV (.int .i64 n17))]))) w_7 (.one (.leaf (.bool))) fun c19 w_18 =>
          Mod D w_7 w_18 ∧
          ifK c19
          (K false w_18)
          (again4 (w64 (i5 + 1)) w_18))
        (k3 w_6)) [.int .i64 0] w) fun w_20 =>
    K true w_20)

def N_winnowlaw5_sameList : Ann := (.mk none [] [] .done .nil (.mk none [] [] .done .nil (.mk none [] [] .done (.mk none [] [] .done .nil (.mk (some []) [] [] .done (.mk none [.tmp 5 (.leaf (.int .i64))] [0, 1] .done (.mk none [] [] .done .nil (.mk none [] [] .done (.mk none [] [] .done (.mk none [] [] .done (.mk none [] [] (.take 0 (.take 1 (.take 2 (.take 3 (.take 4 (.take 5 (.take 6 (.take 7 (.eff 8 .done))))))))) .nil .nil) .nil) .nil) .nil)) .nil) .nil)) .nil)))

theorem is_winnowlaw5_sameList (a1 : Sl) (b2 : Sl) (K : Bool → World → Prop) (w : World) : WF Try.prog CS Try.f49 N_winnowlaw5_sameList (.one (.leaf (.bool))) [.leaf (.sl a1), .leaf (.sl b2)] K w = S_winnowlaw5_sameList a1 b2 K w := by kernel_rfl
theorem go_winnowlaw5_sameList (a1 : Sl) (b2 : Sl) (K : Bool → World → Prop) (w : World) (h : S_winnowlaw5_sameList a1 b2 K w) : callK Try.prog 49 [.leaf (.sl a1), .leaf (.sl b2)] w (.one (.leaf (.bool))) K := by
  refine WF_sound (n := N_winnowlaw5_sameList) CS_ok mixed Try.func49 ?_
  rw [is_winnowlaw5_sameList]
  exact h

-- 50 (*winnow/winnowlaw5.World).keepList
def S_winnowlaw5_World_keepList (w_1 : PA) (l2 : Sl) (K : World → Prop) (w : World) : Prop :=
  dr w_1 fun b3 o4 =>
  ld w .sl b3 (o4 + 3) fun a5 =>
  joinK [] (fun k6 =>
    loopL [.int .i64] (fun i8 w_9 again7 =>
      ifK (decide (i8 < (l2.len : Int)))
      (ix l2 3 i8 fun b10 o11 =>
        st w_9 b10 o11 [.str [109, 97, 114, 107, 101, 100], .int .i64 0, .int .i64 (a5.len : Int)] fun w_12 =>
        again7 (w64 (i8 + 1)) w_12)
      (k6 w_9)) [.int .i64 0] w) fun w_13 =>
  dr w_1 fun b14 o15 =>
  ld w_13 .sl b14 (o15 + 3) fun a16 =>
  al w_13 56 [.sl l2] fun b17 w_18 =>
  ap w_18 56 1 24 [.sl (⟨none, 0, 0⟩)] a16 (⟨some (b17, 0), 1, 1⟩) fun a19 w_20 =>
  dr w_1 fun b21 o22 =>
  st w_20 b21 (o22 + 3) [.sl a19] fun w_23 =>
  joinK [.sl] (fun k24 =>
    loopL [.sl, .int .i64] (fun l26 i27 w_28 again25 =>
      ifK (decide (i27 < 64))
      (al w_28 59 [.str [], .int .i64 0, .int .i64 (w64 ((w64 (0 - (a5.len : Int))) - 1))] fun b29 w_30 =>
        ap w_30 59 3 32 [.str [], .int .i64 0, .int .i64 0] l26 (⟨some (b29, 0), 1, 1⟩) fun a31 w_32 =>
        again25 a31 (w64 (i27 + 1)) w_32)
      (k24 l26 w_28)) [.sl l2, .int .i64 0] w_23) fun l33 w_34 =>
  dr w_1 fun b35 o36 =>
  ld w_34 .sl b35 (o36 + 5) fun a37 =>
  al w_34 56 [.sl l33] fun b38 w_39 =>
  ap w_39 56 1 24 [.sl (⟨none, 0, 0⟩)] a37 (⟨some (b38, 0), 1, 1⟩) fun a40 w_41 =>
  dr w_1 fun b42 o43 =>
  st w_41 b42 (o43 + 5) [.sl a40] fun w_44 =>
  K w_44

def N_winnowlaw5_World_keepList : Ann := (.mk none [] [] .done .nil (.mk none [] [] .done (.mk none [] [] .done .nil (.mk (some []) [] [0, 1, 4] .done (.mk none [.tmp 5 (.leaf (.int .i64))] [0, 1, 4] .done .nil .nil) .nil)) (.mk none [] [] .done .nil (.mk none [] [] .done (.mk none [] [] .done .nil (.mk (some [.tmp 1 (.leaf (.sl))]) [] [0] .done (.mk none [.tmp 1 (.leaf (.sl)), .tmp 6 (.leaf (.int .i64))] [0, 4] .done .nil .nil) .nil)) .nil))))

theorem is_winnowlaw5_World_keepList (w_1 : PA) (l2 : Sl) (K : World → Prop) (w : World) : WF Try.prog CS Try.f50 N_winnowlaw5_World_keepList (.tup []) [.leaf (.ptr w_1), .leaf (.sl l2)] K w = S_winnowlaw5_World_keepList w_1 l2 K w := by kernel_rfl
theorem go_winnowlaw5_World_keepList (w_1 : PA) (l2 : Sl) (K : World → Prop) (w : World) (h : S_winnowlaw5_World_keepList w_1 l2 K w) : callK Try.prog 50 [.leaf (.ptr w_1), .leaf (.sl l2)] w (.tup []) K := by
  refine WF_sound (n := N_winnowlaw5_World_keepList) CS_ok mixed Try.func50 ?_
  rw [is_winnowlaw5_World_keepList]
  exact h

-- 51 (*winnow/winnowref5.Store).StopAt
def S_winnowref5_Store_StopAt (s1 : PA) (name2 : List UInt8) (n3 : Int) (K : Int → World → Prop) (w : World) : Prop :=
  callK Try.prog 61 [.leaf (.ptr s1), .leaf (.str name2)] w (.tup [.leaf (.int .i64), .leaf (.int .i64)]) fun n4 n5 w_6 =>
  ifK (n5 != 0)
  (K n5 w_6)
  (dr s1 fun b7 o8 =>
    ld w_6 .sl b7 o8 fun a9 =>
    ix a9 6 n4 fun b10 o11 =>
    dr (some (b10, o11)) fun b12 o13 =>
    ld w_6 .bool b12 (o13 + 2) fun c14 =>
    ifK c14
    (K 54 w_6)
    (dr (some (b10, o11)) fun b15 o16 =>
      ld w_6 .bool b15 (o16 + 3) fun c17 =>
      ifK c17
      (K 55 w_6)
      (dr (some (b10, o11)) fun b18 o19 =>
        st w_6 b18 (o19 + 4) [.lit true] fun w_20 =>
        dr (some (b10, o11)) fun b21 o22 =>
        st w_20 b21 (o22 + 5) [.int .i64 n3] fun w_23 =>
        joinK [] (fun k24 =>
          ifK (decide (n3 < 0))
          (dr (some (b10, o11)) fun b25 o26 =>
            st w_23 b25 (o26 + 5) [.int .i64 0] fun w_27 =>
            k24 w_27)
          (k24 w_23)) fun w_28 =>
        K 0 w_28)))

def N_winnowref5_Store_StopAt : Ann := (.mk none [] [] .done .nil (.mk none [] [] .done .nil (.mk none [] [] .done .nil (.mk none [] [] .done .nil (.mk none [] [] .done .nil (.mk none [] [] .done .nil (.mk none [] [] .done .nil (.mk none [] [] .done .nil (.mk none [] [] .done (.mk none [] [] .done .nil (.mk (some []) [] [] .done .nil .nil)) .nil)))))))))

theorem is_winnowref5_Store_StopAt (s1 : PA) (name2 : List UInt8) (n3 : Int) (K : Int → World → Prop) (w : World) : WF Try.prog CS Try.f51 N_winnowref5_Store_StopAt (.one (.leaf (.int .i64))) [.leaf (.ptr s1), .leaf (.str name2), .leaf (.int .i64 n3)] K w = S_winnowref5_Store_StopAt s1 name2 n3 K w := by kernel_rfl
theorem go_winnowref5_Store_StopAt (s1 : PA) (name2 : List UInt8) (n3 : Int) (K : Int → World → Prop) (w : World) (h : S_winnowref5_Store_StopAt s1 name2 n3 K w) : callK Try.prog 51 [.leaf (.ptr s1), .leaf (.str name2), .leaf (.int .i64 n3)] w (.one (.leaf (.int .i64))) K := by
  refine WF_sound (n := N_winnowref5_Store_StopAt) CS_ok mixed Try.func51 ?_
  rw [is_winnowref5_Store_StopAt]
  exact h

-- 52 (*winnow/winnowref5.Store).Flip
def S_winnowref5_Store_Flip (s1 : PA) (name2 : List UInt8) (bit3 : Int) (mask4 : Int) (K : Int → World → Prop) (w : World) : Prop :=
  callK Try.prog 61 [.leaf (.ptr s1), .leaf (.str name2)] w (.tup [.leaf (.int .i64), .leaf (.int .i64)]) fun n5 n6 w_7 =>
  ifK (n6 != 0)
  (K n6 w_7)
  (dr s1 fun b8 o9 =>
    ld w_7 .sl b8 o9 fun a10 =>
    ix a10 6 n5 fun b11 o12 =>
    dr (some (b11, o12)) fun b13 o14 =>
    ld w_7 .sl b13 (o14 + 1) fun a15 =>
    joinK [.bool] (fun k16 =>
      ifK (decide (bit3 < 0))
      (k16 true w_7)
      (k16 (decide (w64 (8 * (a15.len : Int)) ≤ bit3)) w_7)) fun t4217 w_18 =>
    ifK t4217
    (K 56 w_18)
    (joinK [] (fun k19 =>
        loopL [.int .u32, .int .i64] (fun mask21 k22 w_23 again20 =>
          ifK (decide (k22 < 32))
          (joinK [.bool] (fun k24 =>
              ifK ((mask21.tmod 2) == 1)
              (k24 (decide (w64 (bit3 + k22) < w64 (8 * (a15.len : Int)))) w_23)
              (k24 false w_23)) fun t5625 w_26 =>
            joinK [] (fun k27 =>
              ifK t5625
              (drawK w_26 fun D w_28 =>
                dr (some (b11, o12)) fun b29 o30 =>
                ldD D w_28 .sl b29 (o30 + 1) fun a31 =>
                dr (some (b11, o12)) fun b32 o33 =>
                ldD D w_28 .sl b32 (o33 + 1) fun a34 =>
                ix a34 1 (w64 ((w64 (bit3 + k22)).tdiv 8)) fun b35 o36 =>
                ldD D w_28 (.int .u8) b35 o36 fun n37 =>
                callK Try.prog 63 [.leaf (.int .u8 n37), .leaf (.int .i64 ((w64 (bit3 + k22)).tmod 8))] w_28 (.one (.leaf (.int .u8))) fun n38 w_39 =>
                Mod D w_28 w_39 ∧
                ix a31 1 (w64 ((w64 (bit3 + k22)).tdiv 8)) fun b40 o41 =>
                st w_39 b40 o41 [.int .u8 n38] fun w_42 =>
                k27 w_42)
              (k27 w_26)) fun w_43 =>
            again20 (IntKind.wrap .u32 (mask21.tdiv 2)) (w64 (k22 + 1)) w_43)
          (k19 w_23)) [.int .u32 mask4, .int .i64 0] w_18) fun w_44 =>
      K 0 w_44))

def N_winnowref5_Store_Flip : Ann := (.mk none [] [] .done .nil (.mk none [] [] .done .nil (.mk none [] [] .done .nil (.mk none [] [] .done .nil (.mk none [] [] .done .nil (.mk none [] [] .done (.mk none [] [] .done (.mk (some [.tmp 42 (.leaf (.bool))]) [] [2, 3, 11, 12] .done .nil .nil) .nil) (.mk none [] [] .done (.mk none [] [] .done .nil (.mk (some []) [] [] .done (.mk none [.tmp 3 (.leaf (.int .u32)), .tmp 13 (.leaf (.int .i64))] [2, 11, 12] .done (.mk none [] [] .done .nil (.mk none [] [] .done (.mk none [] [] .done (.mk none [] [] .done (.mk none [] [] .done (.mk (some [.tmp 56 (.leaf (.bool))]) [] [2, 3, 11, 12, 13] .done .nil .nil) (.mk (some []) [] [2, 3, 11, 12, 13] .done (.mk none [] [] .done .nil (.mk none [] [] (.take 0 (.take 1 (.take 2 (.take 3 (.take 4 (.take 5 (.take 6 (.take 7 (.take 8 (.take 9 (.take 10 (.take 11 (.take 12 (.take 13 (.take 14 (.take 15 (.eff 16 (.take 17 (.last 18))))))))))))))))))) .nil .nil)) .nil)) .nil) .nil) .nil)) .nil) .nil)) .nil)))))))

theorem is_winnowref5_Store_Flip (s1 : PA) (name2 : List UInt8) (bit3 : Int) (mask4 : Int) (K : Int → World → Prop) (w : World) : WF Try.prog CS Try.f52 N_winnowref5_Store_Flip (.one (.leaf (.int .i64))) [.leaf (.ptr s1), .leaf (.str name2), .leaf (.int .i64 bit3), .leaf (.int .u32 mask4)] K w = S_winnowref5_Store_Flip s1 name2 bit3 mask4 K w := by kernel_rfl
theorem go_winnowref5_Store_Flip (s1 : PA) (name2 : List UInt8) (bit3 : Int) (mask4 : Int) (K : Int → World → Prop) (w : World) (h : S_winnowref5_Store_Flip s1 name2 bit3 mask4 K w) : callK Try.prog 52 [.leaf (.ptr s1), .leaf (.str name2), .leaf (.int .i64 bit3), .leaf (.int .u32 mask4)] w (.one (.leaf (.int .i64))) K := by
  refine WF_sound (n := N_winnowref5_Store_Flip) CS_ok mixed Try.func52 ?_
  rw [is_winnowref5_Store_Flip]
  exact h

-- 53 (*winnow/winnowref5.Store).Resize
def S_winnowref5_Store_Resize (s1 : PA) (name2 : List UInt8) (by_3 : Int) (K : Int → World → Prop) (w : World) : Prop :=
  callK Try.prog 61 [.leaf (.ptr s1), .leaf (.str name2)] w (.tup [.leaf (.int .i64), .leaf (.int .i64)]) fun n4 n5 w_6 =>
  ifK (n5 != 0)
  (K n5 w_6)
  (dr s1 fun b7 o8 =>
    ld w_6 .sl b7 o8 fun a9 =>
    ix a9 6 n4 fun b10 o11 =>
    dr (some (b10, o11)) fun b12 o13 =>
    ld w_6 .sl b12 (o13 + 1) fun a14 =>
    joinK [.bool] (fun k15 =>
      ifK (decide (by_3 < w64 (0 - (a14.len : Int))))
      (k15 true w_6)
      (k15 (decide (w64 (268435456 - (a14.len : Int)) < by_3)) w_6)) fun t4116 w_17 =>
    ifK t4116
    (K 56 w_17)
    (ifK (decide (by_3 < 0))
      (dr (some (b10, o11)) fun b18 o19 =>
        ld w_17 .sl b18 (o19 + 1) fun a20 =>
        slx a20 1 none (some (w64 ((a14.len : Int) + by_3))) none fun s21 =>
        dr (some (b10, o11)) fun b22 o23 =>
        st w_17 b22 (o23 + 1) [.sl s21] fun w_24 =>
        K 0 w_24)
      (joinK [] (fun k25 =>
          loopL [.int .i64] (fun k27 w_28 again26 =>
            ifK (decide (k27 < by_3))
            (dr (some (b10, o11)) fun b29 o30 =>
              ld w_28 .sl b29 (o30 + 1) fun a31 =>
              al w_28 5 [.int .u8 0] fun b32 w_33 =>
              ap w_33 5 1 1 [.int .u8 0] a31 (⟨some (b32, 0), 1, 1⟩) fun a34 w_35 =>
              dr (some (b10, o11)) fun b36 o37 =>
              st w_35 b36 (o37 + 1) [.sl a34] fun w_38 =>
              again26 (w64 (k27 + 1)) w_38)
            (k25 w_28)) [.int .i64 0] w_17) fun w_39 =>
        K 0 w_39)))

def N_winnowref5_Store_Resize : Ann := (.mk none [] [] .done .nil (.mk none [] [] .done .nil (.mk none [] [] .done .nil (.mk none [] [] .done .nil (.mk none [] [] .done .nil (.mk none [] [] .done (.mk none [] [] .done (.mk (some [.tmp 41 (.leaf (.bool))]) [] [2, 9, 10] .done .nil .nil) .nil) (.mk none [] [] .done .nil (.mk none [] [] .done (.mk none [] [] .done .nil (.mk (some []) [] [] .done (.mk none [.tmp 11 (.leaf (.int .i64))] [2, 9] .done .nil .nil) .nil)) .nil))))))))

theorem is_winnowref5_Store_Resize (s1 : PA) (name2 : List UInt8) (by_3 : Int) (K : Int → World → Prop) (w : World) : WF Try.prog CS Try.f53 N_winnowref5_Store_Resize (.one (.leaf (.int .i64))) [.leaf (.ptr s1), .leaf (.str name2), .leaf (.int .i64 by_3)] K w = S_winnowref5_Store_Resize s1 name2 by_3 K w := by kernel_rfl
theorem go_winnowref5_Store_Resize (s1 : PA) (name2 : List UInt8) (by_3 : Int) (K : Int → World → Prop) (w : World) (h : S_winnowref5_Store_Resize s1 name2 by_3 K w) : callK Try.prog 53 [.leaf (.ptr s1), .leaf (.str name2), .leaf (.int .i64 by_3)] w (.one (.leaf (.int .i64))) K := by
  refine WF_sound (n := N_winnowref5_Store_Resize) CS_ok mixed Try.func53 ?_
  rw [is_winnowref5_Store_Resize]
  exact h

-- 54 (*winnow/winnowref5.Store).Meter
def S_winnowref5_Store_Meter (s1 : PA) (K : Int → Int → Int → World → Prop) (w : World) : Prop :=
  al w 31 [.int .i64 0, .int .i64 0, .int .i64 0] fun b2 w_3 =>
  ifK s1.isNone
  (st w_3 b2 0 [.int .i64 0, .int .i64 0, .int .i64 0] fun w_4 =>
    ld w_4 (.int .i64) b2 0 fun n5 =>
    ld w_4 (.int .i64) b2 1 fun n6 =>
    ld w_4 (.int .i64) b2 2 fun n7 =>
    K n5 n6 n7 w_4)
  (dr s1 fun b8 o9 =>
    ld w_3 (.int .i64) b8 (o9 + 1) fun n10 =>
    ld w_3 (.int .i64) b8 (o9 + 1 + 1) fun n11 =>
    ld w_3 (.int .i64) b8 (o9 + 1 + 2) fun n12 =>
    st w_3 b2 0 [.int .i64 n10, .int .i64 n11, .int .i64 n12] fun w_13 =>
    ld w_13 (.int .i64) b2 0 fun n14 =>
    ld w_13 (.int .i64) b2 1 fun n15 =>
    ld w_13 (.int .i64) b2 2 fun n16 =>
    K n14 n15 n16 w_13)

def N_winnowref5_Store_Meter : Ann := .nil

theorem is_winnowref5_Store_Meter (s1 : PA) (K : Int → Int → Int → World → Prop) (w : World) : WF Try.prog CS Try.f54 N_winnowref5_Store_Meter (.one (.agg [.int .i64, .int .i64, .int .i64])) [.leaf (.ptr s1)] K w = S_winnowref5_Store_Meter s1 K w := by kernel_rfl
theorem go_winnowref5_Store_Meter (s1 : PA) (K : Int → Int → Int → World → Prop) (w : World) (h : S_winnowref5_Store_Meter s1 K w) : callK Try.prog 54 [.leaf (.ptr s1)] w (.one (.agg [.int .i64, .int .i64, .int .i64])) K := by
  refine WF_sound (n := N_winnowref5_Store_Meter) CS_ok mixed Try.func54 ?_
  rw [is_winnowref5_Store_Meter]
  exact h

-- 61 (*winnow/winnowref5.Store).ask
def S_winnowref5_Store_ask (s1 : PA) (name2 : List UInt8) (K : Int → Int → World → Prop) (w : World) : Prop :=
  ifK s1.isNone
  (K (-1) 1 w)
  (callK Try.prog 83 [.leaf (.str name2)] w (.one (.leaf (.bool))) fun c3 w_4 =>
    ifK (!c3)
    (K (-1) 50 w_4)
    (callK Try.prog 84 [.leaf (.ptr s1), .leaf (.str name2)] w_4 (.one (.leaf (.int .i64))) fun n5 w_6 =>
      ifK (decide (n5 < 0))
      (K (-1) 52 w_6)
      (K n5 0 w_6)))

def N_winnowref5_Store_ask : Ann := .nil

theorem is_winnowref5_Store_ask (s1 : PA) (name2 : List UInt8) (K : Int → Int → World → Prop) (w : World) : WF Try.prog CS Try.f61 N_winnowref5_Store_ask (.tup [.leaf (.int .i64), .leaf (.int .i64)]) [.leaf (.ptr s1), .leaf (.str name2)] K w = S_winnowref5_Store_ask s1 name2 K w := by kernel_rfl
theorem go_winnowref5_Store_ask (s1 : PA) (name2 : List UInt8) (K : Int → Int → World → Prop) (w : World) (h : S_winnowref5_Store_ask s1 name2 K w) : callK Try.prog 61 [.leaf (.ptr s1), .leaf (.str name2)] w (.tup [.leaf (.int .i64), .leaf (.int .i64)]) K := by
  refine WF_sound (n := N_winnowref5_Store_ask) CS_ok mixed Try.func61 ?_
  rw [is_winnowref5_Store_ask]
  exact h

-- 62 (*winnow/winnowref5.Store).Append
def S_winnowref5_Store_Append (s1 : PA) (name2 : List UInt8) (b3 : Sl) (K : Int → World → Prop) (w : World) : Prop :=
  callK Try.prog 61 [.leaf (.ptr s1), .leaf (.str name2)] w (.tup [.leaf (.int .i64), .leaf (.int .i64)]) fun n4 n5 w_6 =>
  ifK (n5 != 0)
  (K n5 w_6)
  (dr s1 fun b7 o8 =>
    ld w_6 .sl b7 o8 fun a9 =>
    ix a9 6 n4 fun b10 o11 =>
    dr (some (b10, o11)) fun b12 o13 =>
    ld w_6 .bool b12 (o13 + 2) fun c14 =>
    ifK c14
    (K 54 w_6)
    (dr (some (b10, o11)) fun b15 o16 =>
      ld w_6 .bool b15 (o16 + 3) fun c17 =>
      ifK c17
      (K 55 w_6)
      (dr (some (b10, o11)) fun b18 o19 =>
        ld w_6 .sl b18 (o19 + 1) fun a20 =>
        ifK (decide (268435456 < w64 ((a20.len : Int) + (b3.len : Int))))
        (K 57 w_6)
        (joinK [.bool] (fun k21 =>
            dr (some (b10, o11)) fun b22 o23 =>
            ld w_6 .bool b22 (o23 + 4) fun c24 =>
            ifK c24
            (dr (some (b10, o11)) fun b25 o26 =>
              ld w_6 (.int .i64) b25 (o26 + 5) fun n27 =>
              k21 (decide (n27 < w64 ((a20.len : Int) + (b3.len : Int)))) w_6)
            (k21 false w_6)) fun t5828 w_29 =>
          ifK t5828
          (dr (some (b10, o11)) fun b30 o31 =>
            ld w_29 (.int .i64) b30 (o31 + 5) fun n32 =>
            joinK [] (fun k33 =>
              ifK (decide ((a20.len : Int) < n32))
              (drawK w_29 fun D w_34 =>
                dr (some (b10, o11)) fun b35 o36 =>
                ldD D w_34 .sl b35 (o36 + 1) fun a37 =>
                dr (some (b10, o11)) fun b38 o39 =>
                ldD D w_34 (.int .i64) b38 (o39 + 5) fun n40 =>
                slx b3 1 none (some (w64 (n40 - (a20.len : Int)))) none fun s41 =>
                ap w_34 5 1 1 [.int .u8 0] a37 s41 fun a42 w_43 =>
                Mod D w_34 w_43 ∧
                dr (some (b10, o11)) fun b44 o45 =>
                st w_43 b44 (o45 + 1) [.sl a42] fun w_46 =>
                k33 w_46)
              (k33 w_29)) fun w_47 =>
            dr (some (b10, o11)) fun b48 o49 =>
            st w_47 b48 (o49 + 3) [.lit true] fun w_50 =>
            K 55 w_50)
          (dr (some (b10, o11)) fun b51 o52 =>
            ld w_29 .sl b51 (o52 + 1) fun a53 =>
            ap w_29 5 1 1 [.int .u8 0] a53 b3 fun a54 w_55 =>
            dr (some (b10, o11)) fun b56 o57 =>
            st w_55 b56 (o57 + 1) [.sl a54] fun w_58 =>
            K 0 w_58)))))

def N_winnowref5_Store_Append : Ann := (.mk none [] [] .done .nil (.mk none [] [] .done .nil (.mk none [] [] .done .nil (.mk none [] [] .done .nil (.mk none [] [] .done .nil (.mk none [] [] .done .nil (.mk none [] [] .done .nil (.mk none [] [] .done .nil (.mk none [] [] .done (.mk none [] [] .done (.mk (some [.tmp 58 (.leaf (.bool))]) [] [2, 9, 10] .done .nil .nil) (.mk none [] [] .done (.mk none [] [] .done (.mk none [] [] .done .nil (.mk (some []) [] [9] .done (.mk none [] [] (.take 0 (.take 1 (.take 2 (.take 3 (.take 4 (.take 5 (.take 6 (.take 7 (.take 8 (.take 9 (.take 10 (.take 11 (.take 12 (.eff 13 (.take 14 (.take 15 (.last 16))))))))))))))))) .nil .nil) .nil)) .nil) .nil)) .nil)))))))))

theorem is_winnowref5_Store_Append (s1 : PA) (name2 : List UInt8) (b3 : Sl) (K : Int → World → Prop) (w : World) : WF Try.prog CS Try.f62 N_winnowref5_Store_Append (.one (.leaf (.int .i64))) [.leaf (.ptr s1), .leaf (.str name2), .leaf (.sl b3)] K w = S_winnowref5_Store_Append s1 name2 b3 K w := by kernel_rfl
theorem go_winnowref5_Store_Append (s1 : PA) (name2 : List UInt8) (b3 : Sl) (K : Int → World → Prop) (w : World) (h : S_winnowref5_Store_Append s1 name2 b3 K w) : callK Try.prog 62 [.leaf (.ptr s1), .leaf (.str name2), .leaf (.sl b3)] w (.one (.leaf (.int .i64))) K := by
  refine WF_sound (n := N_winnowref5_Store_Append) CS_ok mixed Try.func62 ?_
  rw [is_winnowref5_Store_Append]
  exact h


end Go.Proofs.Ytjldecomhpngmaa
