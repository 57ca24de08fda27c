/- DriverNil, walked: drivers without a store, nil drivers. -/
import Derived.Test.YtjefbjfifjjpmafGreatDoorSN
import Derived.Test.YtjefbjfifjjpmafGreatDoorLE
namespace Go.Proofs.YtjefbjfifjjpmafGreatDoor
open Go.Vw

abbrev F0 : Nat → Prop := fun _ => False
variable {w : World}
theorem neq_bool {a b : Bool} {t : TypeId} {o1 o2 : Operand} {K : Bool → World → Prop} (ht : Tryz.prog.underlying t = some .bool) (hK : K (!(a == b)) w) :
    opF Tryz.prog (vS (do eqGuard .neq t o1 o2 (LV.toV (.bool a)) (LV.toV (.bool b)); binOp .neq t (LV.toV (.bool a)) (LV.toV (.bool b)))) w (.one (.leaf .bool)) K := by
  refine ⟨[.bool (!(a == b))], w, ?_, hK⟩
  have h1 : (eqGuard .neq t o1 o2 (LV.toV (.bool a)) (LV.toV (.bool b))).run Tryz.prog w = .ok () w := by unfold eqGuard; rfl
  have h2 : (binOp .neq t (LV.toV (.bool a)) (LV.toV (.bool b))).run Tryz.prog w = .ok (.bool (!(a == b))) w := by
    have h := run_equalIn_bool (P := Tryz.prog) w 9999 t a b ht
    have h' : (Op.equalIn 10000 t (.bool a) (.bool b)).run Tryz.prog w = .ok (a == b) w := h
    simp only [LV.toV, binOp]
    simp [Op.equal, Op.maxDepth, h']
  unfold vS
  simp only [Sem.run_bind, h1, h2, Result.andThen]
  rfl
theorem new_nil {out : Str} {a0 a1 : Int} {a2 : Sl} {a3 : Bool} {a4 a5 a6 a7 a8 a9 : Int} {s f : Sl} {K : PA → Int → World → Prop} (hK : ∀ w', Mod F0 w w' → K none 1 w') :
    callK Tryz.prog c_driver_New [.leaf (.ptr none), .leaf (.str out), .agg [.int .i64 a0, .int .i64 a1, .sl a2, .bool a3, .int .i64 a4, .int .i64 a5, .int .i64 a6, .int .i64 a7, .int .i64 a8, .int .i64 a9], .leaf (.sl s), .leaf (.sl f)] w (.tup [.leaf .ptr, .leaf (.int .i64)]) K := by
  refine go_driver_New _ _ _ _ _ _ _ _ _ _ _ _ _ _ _ _ ?_
  exact (At.init w F0).alK fun b1 w1 _ h1 _ => ifK_t rfl (hK _ h1.mod)
theorem step_nil {p : Int} {K : Int → Int → Int → Bool → Int → Int → Int → Int → Bool → Int → World → Prop} (hK : ∀ w', Mod F0 w w' → K 0 0 0 false 0 0 0 0 false 1 w') :
    callK Tryz.prog c_driver_Driver_Step [.leaf (.ptr none), .leaf (.int .i64 p)] w (.tup [.agg [.int .i64, .int .i64, .int .i64, .bool, .int .i64, .int .i64, .int .i64, .int .i64, .bool], .leaf (.int .i64)]) K := by
  refine go_driver_Driver_Step _ _ _ _ ?_
  unfold S_driver_Driver_Step
  refine (At.init w F0).alK fun b1 w1 _ h1 _ => h1.alK fun b2 w2 _ h2 _ => ?_
  refine h2.ld 0 (k := .ptr) none rfl rfl (ifK_t rfl ?_)
  refine h2.ld 1 (k := .int .i64) 0 rfl rfl (h2.ld 1 (k := .int .i64) 0 rfl rfl (h2.ld 1 (k := .int .i64) 0 rfl rfl (h2.ld 1 (k := .bool) false rfl rfl ?_)))
  refine h2.ld 1 (k := .int .i64) 0 rfl rfl (h2.ld 1 (k := .int .i64) 0 rfl rfl (h2.ld 1 (k := .int .i64) 0 rfl rfl (h2.ld 1 (k := .int .i64) 0 rfl rfl (h2.ld 1 (k := .bool) false rfl rfl ?_))))
  refine h2.st 1 rfl (Nat.le_refl 9) fun w3 h3 _ => ?_
  refine h3.ld 1 (k := .int .i64) 0 rfl rfl (h3.ld 1 (k := .int .i64) 0 rfl rfl (h3.ld 1 (k := .int .i64) 0 rfl rfl (h3.ld 1 (k := .bool) false rfl rfl ?_)))
  exact h3.ld 1 (k := .int .i64) 0 rfl rfl (h3.ld 1 (k := .int .i64) 0 rfl rfl (h3.ld 1 (k := .int .i64) 0 rfl rfl (h3.ld 1 (k := .int .i64) 0 rfl rfl (h3.ld 1 (k := .bool) false rfl rfl (hK _ h3.mod)))))
theorem book_nil {K : Int → Sl → Sl → Bool → World → Prop} (hK : ∀ w', Mod F0 w w' → K 0 ⟨none, 0, 0⟩ ⟨none, 0, 0⟩ false w') :
    callK Tryz.prog c_driver_Driver_Book [.leaf (.ptr none)] w (.one (.agg [.int .i64, .sl, .sl, .bool])) K := by
  refine go_driver_Driver_Book _ _ _ ?_
  refine (At.init w F0).alK fun b1 w1 _ h1 _ => ifK_t rfl ?_
  refine h1.st 0 rfl (Nat.le_refl 4) fun w3 h3 _ => ?_
  exact h3.ld 0 (k := .int .i64) 0 rfl rfl (h3.ld 0 (k := .sl) ⟨none, 0, 0⟩ rfl rfl (h3.ld 0 (k := .sl) ⟨none, 0, 0⟩ rfl rfl (h3.ld 0 (k := .bool) false rfl rfl (hK _ h3.mod))))
theorem over_nil {K : Int → Int → Int → Int → Int → Int → Bool → World → Prop} (hK : ∀ w', Mod F0 w w' → K 0 0 0 0 0 0 false w') :
    callK Tryz.prog c_driver_Driver_Over [.leaf (.ptr none)] w (.tup [.agg [.int .i64, .int .i64, .int .i64, .int .i64, .int .i64, .int .i64], .leaf .bool]) K := by
  refine go_driver_Driver_Over _ _ _ ?_
  refine (At.init w F0).alK fun b1 w1 _ h1 _ => ?_
  refine join1 (a := .bool) (fun b u => b = true ∧ u = w1) (fun k hk => ifK_t rfl (hk _ _ ⟨rfl, rfl⟩)) fun b u h => ifK_t h.1 ?_
  rw [h.2]
  refine h1.st 0 rfl (Nat.le_refl 6) fun w3 h3 _ => ?_
  exact h3.ld 0 (k := .int .i64) 0 rfl rfl (h3.ld 0 (k := .int .i64) 0 rfl rfl (h3.ld 0 (k := .int .i64) 0 rfl rfl (h3.ld 0 (k := .int .i64) 0 rfl rfl (h3.ld 0 (k := .int .i64) 0 rfl rfl (h3.ld 0 (k := .int .i64) 0 rfl rfl (hK _ h3.mod))))))
theorem run_nil {out : Str} {a0 a1 : Int} {a2 : Sl} {a3 : Bool} {a4 a5 a6 a7 a8 a9 : Int} {s f p : Sl} {K : Int → Int → Int → Int → Int → Int → Int → World → Prop} (hK : ∀ w', Mod F0 w w' → K 0 0 0 0 0 0 1 w') :
    callK Tryz.prog c_driver_Run [.leaf (.ptr none), .leaf (.str out), .agg [.int .i64 a0, .int .i64 a1, .sl a2, .bool a3, .int .i64 a4, .int .i64 a5, .int .i64 a6, .int .i64 a7, .int .i64 a8, .int .i64 a9], .leaf (.sl s), .leaf (.sl f), .leaf (.sl p)] w (.tup [.agg [.int .i64, .int .i64, .int .i64, .int .i64, .int .i64, .int .i64], .leaf (.int .i64)]) K := by
  refine go_driver_Run _ _ _ _ _ _ _ _ _ _ _ _ _ _ _ _ _ ?_
  unfold S_driver_Run
  refine (At.init w F0).alK fun b1 w1 _ h1 _ => h1.alK fun b2 w2 _ h2 _ => ?_
  refine h2.ld 0 (k := .int .i64) a0 rfl rfl (h2.ld 0 (k := .int .i64) a1 rfl rfl (h2.ld 0 (k := .sl) a2 rfl rfl (h2.ld 0 (k := .bool) a3 rfl rfl ?_)))
  refine h2.ld 0 (k := .int .i64) a4 rfl rfl (h2.ld 0 (k := .int .i64) a5 rfl rfl (h2.ld 0 (k := .int .i64) a6 rfl rfl (h2.ld 0 (k := .int .i64) a7 rfl rfl (h2.ld 0 (k := .int .i64) a8 rfl rfl (h2.ld 0 (k := .int .i64) a9 rfl rfl ?_)))))
  refine new_nil fun w3 M3 => ifK_t rfl ?_
  have h3 := h2.keep0 M3 fun _ => id
  refine h3.st 1 rfl (Nat.le_refl 6) fun w4 h4 _ => ?_
  exact h4.ld 1 (k := .int .i64) 0 rfl rfl (h4.ld 1 (k := .int .i64) 0 rfl rfl (h4.ld 1 (k := .int .i64) 0 rfl rfl (h4.ld 1 (k := .int .i64) 0 rfl rfl (h4.ld 1 (k := .int .i64) 0 rfl rfl (h4.ld 1 (k := .int .i64) 0 rfl rfl (hK _ h4.mod))))))
theorem sameBook_nil {K : Bool → World → Prop} (hK : ∀ w', Mod F0 w w' → K true w') : callK Tryz.prog c_winnowlaw21_sameBook [.agg [.int .i64 0, .sl ⟨none, 0, 0⟩, .sl ⟨none, 0, 0⟩, .bool false], .agg [.int .i64 0, .sl ⟨none, 0, 0⟩, .sl ⟨none, 0, 0⟩, .bool false]] w (.one (.leaf .bool)) K := by
  refine go_winnowlaw21_sameBook _ _ _ _ _ _ _ _ _ _ ?_
  unfold S_winnowlaw21_sameBook
  refine (At.init w F0).alK fun b1 w1 _ h1 _ => h1.alK fun b2 w2 _ h2 _ => ?_
  refine join1 (a := .bool) (fun b u => b = false ∧ u = w2) (fun k hk => ?_) fun b u h => ifK_f h.1 ?_
  · refine h2.ld 0 (k := .int .i64) 0 rfl rfl (h2.ld 1 (k := .int .i64) 0 rfl rfl (ifK_f rfl ?_))
    refine h2.ld 0 (k := .bool) false rfl rfl (h2.ld 1 (k := .bool) false rfl rfl (neq_bool Tryz.underlying4 (ifK_f rfl ?_)))
    refine h2.ld 0 (k := .sl) ⟨none, 0, 0⟩ rfl rfl (h2.ld 1 (k := .sl) ⟨none, 0, 0⟩ rfl rfl (ifK_f rfl ?_))
    exact h2.ld 0 (k := .sl) ⟨none, 0, 0⟩ rfl rfl (h2.ld 1 (k := .sl) ⟨none, 0, 0⟩ rfl rfl (hk _ _ ⟨rfl, rfl⟩))
  rw [h.2]
  refine join0 (fun u => u = w2) (fun k hk => ?_) fun u h => ?_
  · refine loop1 (k := .int .i64) (fun i u => i = 0 ∧ u = w2) (fun _ _ => 0) (x := 0) rfl ⟨rfl, rfl⟩ ?_
    rintro i u ⟨rfl, e⟩
    rw [e]
    exact h2.ld 0 (k := .sl) ⟨none, 0, 0⟩ rfl rfl (ifK_f rfl (hk _ rfl))
  rw [h]
  refine join0 (fun u => u = w2) (fun k hk => ?_) fun u h => h ▸ hK _ h2.mod
  refine loop1 (k := .int .i64) (fun i u => i = 0 ∧ u = w2) (fun _ _ => 0) (x := 0) rfl ⟨rfl, rfl⟩ ?_
  rintro i u ⟨rfl, e⟩
  rw [e]
  exact h2.ld 0 (k := .sl) ⟨none, 0, 0⟩ rfl rfl (ifK_f rfl (hk _ rfl))
theorem nil_walk {K : Bool → World → Prop} (hK : ∀ w', Mod F0 w w' → K true w') : callK Tryz.prog c_winnowlaw21_DriverNil [] w (.one (.leaf .bool)) K := by
  refine go_winnowlaw21_DriverNil _ _ ?_
  unfold S_winnowlaw21_DriverNil
  refine new_nil (a3 := false) fun w1 M1 => step_nil fun w2 M2 => ?_
  refine (At.init w F0 |>.keep0 M1 (fun _ => id) |>.keep0 M2 (fun _ => id)).alK fun b3 w3 _ h3 _ => ?_
  refine h3.st 0 rfl (Nat.le_refl 9) fun w4 h4 _ => book_nil fun w5 M5 => ?_
  refine (h4.keep0 M5 fun _ => id).alK fun b6 w6 _ h6 _ => ?_
  refine h6.st 1 rfl (Nat.le_refl 4) fun w7 h7 _ => over_nil fun w8 M8 => ?_
  refine (h7.keep0 M8 fun _ => id).alK fun b9 w9 _ h9 _ => ?_
  refine h9.st 2 rfl (Nat.le_refl 6) fun w10 h10 _ => run_nil (a3 := false) fun w11 M11 => ?_
  refine (h10.keep0 M11 fun _ => id).alK fun b12 w12 _ h12 _ => ?_
  refine h12.st 3 rfl (Nat.le_refl 6) fun w13 h13 _ => ?_
  refine join1 (a := .bool) (fun b u => b = true ∧ Mod F0 w u) (fun k hk => ?_) fun b u h => by obtain ⟨rfl, h⟩ := h; exact hK _ h
  refine ifK_t rfl (ifK_t rfl (ifK_t rfl ?_))
  refine h13.ld 0 (k := .int .i64) 0 rfl rfl (h13.ld 0 (k := .int .i64) 0 rfl rfl (h13.ld 0 (k := .int .i64) 0 rfl rfl (h13.ld 0 (k := .bool) false rfl rfl ?_)))
  refine h13.ld 0 (k := .int .i64) 0 rfl rfl (h13.ld 0 (k := .int .i64) 0 rfl rfl (h13.ld 0 (k := .int .i64) 0 rfl rfl (h13.ld 0 (k := .int .i64) 0 rfl rfl (h13.ld 0 (k := .bool) false rfl rfl ?_))))
  refine eqlK (d := 4) (ks := [.int .i64, .int .i64, .int .i64, .bool, .int .i64, .int .i64, .int .i64, .int .i64, .bool]) (xs := [.int .i64 0, .int .i64 0, .int .i64 0, .bool false, .int .i64 0, .int .i64 0, .int .i64 0, .int .i64 0, .bool false]) (ys := [.int .i64 0, .int .i64 0, .int .i64 0, .lit false, .int .i64 0, .int .i64 0, .int .i64 0, .int .i64 0, .lit false]) (by kernel_rfl) (by decide) (by kernel_rfl) (by kernel_rfl) rfl rfl rfl rfl (ifK_t rfl ?_)
  refine h13.ld 1 (k := .int .i64) 0 rfl rfl (h13.ld 1 (k := .sl) ⟨none, 0, 0⟩ rfl rfl (h13.ld 1 (k := .sl) ⟨none, 0, 0⟩ rfl rfl (h13.ld 1 (k := .bool) false rfl rfl (sameBook_nil fun w14 M14 => ifK_t rfl ?_))))
  have h14 := h13.keep0 M14 fun _ => id
  refine h14.ld 2 (k := .int .i64) 0 rfl rfl (h14.ld 2 (k := .int .i64) 0 rfl rfl (h14.ld 2 (k := .int .i64) 0 rfl rfl (h14.ld 2 (k := .int .i64) 0 rfl rfl (h14.ld 2 (k := .int .i64) 0 rfl rfl (h14.ld 2 (k := .int .i64) 0 rfl rfl ?_)))))
  refine eqlK (d := 4) (ks := [.int .i64, .int .i64, .int .i64, .int .i64, .int .i64, .int .i64]) (xs := [.int .i64 0, .int .i64 0, .int .i64 0, .int .i64 0, .int .i64 0, .int .i64 0]) (ys := [.int .i64 0, .int .i64 0, .int .i64 0, .int .i64 0, .int .i64 0, .int .i64 0]) (by kernel_rfl) (by decide) (by kernel_rfl) (by kernel_rfl) rfl rfl rfl rfl (ifK_t rfl (ifK_t rfl ?_))
  refine h14.ld 3 (k := .int .i64) 0 rfl rfl (h14.ld 3 (k := .int .i64) 0 rfl rfl (h14.ld 3 (k := .int .i64) 0 rfl rfl (h14.ld 3 (k := .int .i64) 0 rfl rfl (h14.ld 3 (k := .int .i64) 0 rfl rfl (h14.ld 3 (k := .int .i64) 0 rfl rfl ?_)))))
  refine eqlK (d := 4) (ks := [.int .i64, .int .i64, .int .i64, .int .i64, .int .i64, .int .i64]) (xs := [.int .i64 0, .int .i64 0, .int .i64 0, .int .i64 0, .int .i64 0, .int .i64 0]) (ys := [.int .i64 0, .int .i64 0, .int .i64 0, .int .i64 0, .int .i64 0, .int .i64 0]) (by kernel_rfl) (by decide) (by kernel_rfl) (by kernel_rfl) rfl rfl rfl rfl (ifK_t rfl ?_)
  exact hk _ _ ⟨rfl, h14.mod⟩
end Go.Proofs.YtjefbjfifjjpmafGreatDoor
