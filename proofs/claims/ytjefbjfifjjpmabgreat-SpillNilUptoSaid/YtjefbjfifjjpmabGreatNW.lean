/- SpillNil, walked: nil writers, readers, cursors. -/
import Derived.Test.YtjefbjfifjjpmabGreatSN
import Derived.Test.YtjefbjfifjjpmabGreatLE
namespace Go.Proofs.YtjefbjfifjjpmabGreat
open Go.Vw

abbrev F0 : Nat → Prop := fun _ => False
variable {w : World}
theorem close_nil {K : Int → Int → Int → World → Prop} (hK : K 0 0 1 w) : callK Tryz.prog c_spill_Writer_Close [.leaf (.ptr none)] w (.tup [.leaf (.int .i64), .leaf (.int .i64), .leaf (.int .i64)]) K := by
  refine go_spill_Writer_Close _ _ _ ?_
  exact ifK_t rfl hK
theorem refusal_nil {p : Int} {K : Int → World → Prop} (hK : K 1 w) : callK Tryz.prog c_spill_Reader_refusal [.leaf (.ptr none), .leaf (.int .i64 p)] w (.one (.leaf (.int .i64))) K := by
  refine go_spill_Reader_refusal _ _ _ _ ?_
  exact ifK_t rfl hK
theorem count_nil {p : Int} {K : Int → Int → World → Prop} (hK : K 0 1 w) : callK Tryz.prog c_spill_Reader_Count [.leaf (.ptr none), .leaf (.int .i64 p)] w (.tup [.leaf (.int .i64), .leaf (.int .i64)]) K := by
  refine go_spill_Reader_Count _ _ _ _ ?_
  exact refusal_nil (ifK_t rfl hK)
theorem scan_nil {p : Int} {K : PA → Int → World → Prop} (hK : K none 1 w) : callK Tryz.prog c_spill_Reader_Scan [.leaf (.ptr none), .leaf (.int .i64 p)] w (.tup [.leaf .ptr, .leaf (.int .i64)]) K := by
  refine go_spill_Reader_Scan _ _ _ _ ?_
  exact refusal_nil (ifK_t rfl hK)
theorem seek_nil {p : Int} {k : Str} {K : PA → Int → World → Prop} (hK : K none 1 w) : callK Tryz.prog c_spill_Reader_Seek [.leaf (.ptr none), .leaf (.int .i64 p), .leaf (.str k)] w (.tup [.leaf .ptr, .leaf (.int .i64)]) K := by
  refine go_spill_Reader_Seek _ _ _ _ _ ?_
  exact refusal_nil (ifK_t rfl hK)
theorem has_nil {p : Int} {k : Str} {K : Bool → Int → World → Prop} (hK : K false 1 w) : callK Tryz.prog c_spill_Reader_Has [.leaf (.ptr none), .leaf (.int .i64 p), .leaf (.str k)] w (.tup [.leaf .bool, .leaf (.int .i64)]) K := by
  refine go_spill_Reader_Has _ _ _ _ _ ?_
  exact refusal_nil (ifK_t rfl hK)
theorem next_nil {K : Str → Str → Bool → Int → World → Prop} (hK : ∀ w', Mod F0 w w' → K [] [] false 1 w') : callK Tryz.prog c_spill_Cursor_Next [.leaf (.ptr none)] w (.tup [.agg [.str, .str], .leaf .bool, .leaf (.int .i64)]) K := by
  refine go_spill_Cursor_Next _ _ _ ?_
  refine (At.init w F0).alK fun b w1 _ h1 _ => ifK_t rfl ?_
  refine h1.st 0 rfl (Nat.le_refl 2) fun w2 h2 _ => ?_
  exact h2.ld 0 (k := .str) [] rfl rfl (h2.ld 0 (k := .str) [] rfl rfl (hK _ h2.mod))
theorem add_nil {p : Int} {k v : Str} {K : Int → World → Prop} (hK : ∀ w', Mod F0 w w' → K 1 w') : callK Tryz.prog c_spill_Writer_Add [.leaf (.ptr none), .agg [.int .i64 p, .str k, .str v]] w (.one (.leaf (.int .i64))) K := by
  refine go_spill_Writer_Add _ _ _ _ _ _ ?_
  exact (At.init w F0).alK fun b w1 _ h1 _ => ifK_t rfl (hK _ h1.mod)
theorem parts_nil {K : Int → World → Prop} (hK : K 0 w) : callK Tryz.prog c_spill_Reader_Parts [.leaf (.ptr none)] w (.one (.leaf (.int .i64))) K := by
  refine go_spill_Reader_Parts _ _ _ ?_
  exact ifK_t rfl hK
theorem foot_nil {K : Int → Sl → World → Prop} (hK : ∀ w', Mod F0 w w' → K 0 ⟨none, 0, 0⟩ w') : callK Tryz.prog c_spill_Reader_Foot [.leaf (.ptr none)] w (.one (.agg [.int .i64, .sl])) K := by
  refine go_spill_Reader_Foot _ _ _ ?_
  refine (At.init w F0).alK fun b w1 _ h1 _ => ifK_t rfl ?_
  refine h1.st 0 rfl (Nat.le_refl 2) fun w2 h2 _ => ?_
  exact h2.ld 0 (k := .int .i64) 0 rfl rfl (h2.ld 0 (k := .sl) ⟨none, 0, 0⟩ rfl rfl (hK _ h2.mod))
theorem sameFoot_nil {K : Bool → World → Prop} (hK : ∀ w', Mod F0 w w' → K true w') : callK Tryz.prog c_winnowlaw9_sameFoot [.agg [.int .i64 0, .sl ⟨none, 0, 0⟩], .agg [.int .i64 0, .sl ⟨none, 0, 0⟩]] w (.one (.leaf .bool)) K := by
  refine go_winnowlaw9_sameFoot _ _ _ _ _ _ ?_
  refine (At.init w F0).alK fun b1 w1 _ h1 _ => h1.alK fun b2 w2 _ h2 _ => ?_
  refine join1 (a := .bool) (fun b w' => b = false ∧ w' = w2) (fun k hk => ?_) fun b w' h => ?_
  · refine h2.ld 0 (k := .int .i64) 0 rfl rfl (h2.ld 1 (k := .int .i64) 0 rfl rfl (ifK_f rfl ?_))
    exact h2.ld 0 (k := .sl) ⟨none, 0, 0⟩ rfl rfl (h2.ld 1 (k := .sl) ⟨none, 0, 0⟩ rfl rfl (hk _ _ ⟨rfl, rfl⟩))
  · obtain ⟨rfl, e⟩ := h
    rw [e]
    refine ifK_f rfl (join0 (fun w' => w' = w2) (fun k hk => ?_) fun w' h => h ▸ hK _ h2.mod)
    refine loop1 (k := .int .i64) (fun i u => i = 0 ∧ u = w2) (fun _ _ => 0) (x := 0) rfl ⟨rfl, rfl⟩ ?_
    rintro i u ⟨rfl, e⟩
    rw [e]
    exact h2.ld 0 (k := .sl) ⟨none, 0, 0⟩ rfl rfl (ifK_f rfl (hk _ rfl))
theorem nil_walk {p : Int} {k v : Str} {K : Bool → World → Prop} (hK : ∀ w', Mod F0 w w' → K true w') : callK Tryz.prog c_winnowlaw9_SpillNil [.agg [.int .i64 p, .str k, .str v]] w (.one (.leaf .bool)) K := by
  refine go_winnowlaw9_SpillNil _ _ _ _ _ ?_
  unfold S_winnowlaw9_SpillNil
  refine (At.init w F0).alK fun b1 w1 _ h1 _ => close_nil ?_
  refine h1.ld 0 (k := .int .i64) p rfl rfl (count_nil (h1.ld 0 (k := .int .i64) p rfl rfl (scan_nil ?_)))
  refine h1.ld 0 (k := .int .i64) p rfl rfl (h1.ld 0 (k := .str) k rfl rfl (seek_nil ?_))
  refine h1.ld 0 (k := .int .i64) p rfl rfl (h1.ld 0 (k := .str) k rfl rfl (has_nil (next_nil fun w2 M2 => ?_)))
  have h2 := h1.keep0 M2 fun _ => id
  refine h2.alK fun b3 w3 _ h3 _ => ?_
  refine h3.st 1 rfl (Nat.le_refl 2) fun w4 h4 _ => ?_
  refine join1 (a := .bool) (fun b w' => b = true ∧ At w F0 [(b1, [.int .i64 p, LV.toV (.str k), LV.toV (.str v)]), (b3, [LV.toV (.str []), LV.toV (.str [])])] w') (fun kk hk => ?_) fun b w' h => ?_
  · refine h4.ld 0 (k := .int .i64) p rfl rfl (h4.ld 0 (k := .str) k rfl rfl (h4.ld 0 (k := .str) v rfl rfl (add_nil fun w5 M5 => ?_)))
    have h5 := h4.keep0 M5 fun _ => id
    refine ifK_t rfl (ifK_t rfl (ifK_t rfl (ifK_t rfl (parts_nil (ifK_t rfl (foot_nil fun w6 M6 => sameFoot_nil fun w7 M7 => ?_))))))
    refine ifK_t rfl (ifK_t rfl (ifK_t rfl (ifK_t rfl (hk _ _ ⟨rfl, (h5.keep0 M6 fun _ => id).keep0 M7 fun _ => id⟩))))
  · obtain ⟨rfl, h6⟩ := h
    refine join1 (a := .bool) (fun b w' => b = true ∧ Mod F0 w w') (fun kk hk => ?_) fun b w' h => by obtain ⟨rfl, h⟩ := h; exact hK _ h
    refine ifK_t rfl (ifK_t rfl (ifK_t rfl (ifK_t rfl (ifK_t rfl ?_))))
    refine h6.ld 1 (k := .str) [] rfl rfl (h6.ld 1 (k := .str) [] rfl rfl ?_)
    refine eqlK (d := 3) (ks := [.str, .str]) (xs := [.str [], .str []]) (ys := [.str [], .str []]) (by kernel_rfl) (by decide) (by kernel_rfl) (by kernel_rfl) rfl rfl rfl rfl ?_
    exact ifK_t rfl (ifK_t rfl (hk _ _ ⟨rfl, h6.mod⟩))
end Go.Proofs.YtjefbjfifjjpmabGreat
