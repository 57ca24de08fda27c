/- ExtsortNil, walked: nil sorters and streams. -/
import Derived.Test.YtjefbjfifjjpmadGreatSN
import Derived.Test.YtjefbjfifjjpmadGreatLE
namespace Go.Proofs.YtjefbjfifjjpmadGreat
open Go.Vw

abbrev F0 : Nat → Prop := fun _ => False
variable {w : World}
theorem finish_nil {K : PA → Int → World → Prop} (hK : K none 1 w) : callK Tryz.prog c_extsort_Sorter_Finish [.leaf (.ptr none)] w (.tup [.leaf .ptr, .leaf (.int .i64)]) K := by
  refine go_extsort_Sorter_Finish _ _ _ ?_
  exact ifK_t rfl hK
theorem next_nil {K : Int → Str → Str → Bool → Int → World → Prop} (hK : ∀ w', Mod F0 w w' → K 0 [] [] false 1 w') : callK Tryz.prog c_extsort_Stream_Next [.leaf (.ptr none)] w (.tup [.agg [.int .i64, .str, .str], .leaf .bool, .leaf (.int .i64)]) K := by
  refine go_extsort_Stream_Next _ _ _ ?_
  refine (At.init w F0).alK fun b w1 _ h1 _ => ifK_t rfl ?_
  refine h1.st 0 rfl (Nat.le_refl 3) fun w2 h2 _ => ?_
  exact h2.ld 0 (k := .int .i64) 0 rfl rfl (h2.ld 0 (k := .str) [] rfl rfl (h2.ld 0 (k := .str) [] rfl rfl (hK _ h2.mod)))
theorem add_nil {p : Int} {k v : Str} {K : Int → World → Prop} (hK : ∀ w', Mod F0 w w' → K 1 w') : callK Tryz.prog c_extsort_Sorter_Add [.leaf (.ptr none), .agg [.int .i64 p, .str k, .str v]] w (.one (.leaf (.int .i64))) K := by
  refine go_extsort_Sorter_Add _ _ _ _ _ _ ?_
  exact (At.init w F0).alK fun b w1 _ h1 _ => ifK_t rfl (hK _ h1.mod)
theorem stats_nil {K : Int → Int → Int → World → Prop} (hK : ∀ w', Mod F0 w w' → K 0 0 0 w') : callK Tryz.prog c_extsort_Sorter_Stats [.leaf (.ptr none)] w (.one (.agg [.int .i64, .int .i64, .int .i64])) K := by
  refine go_extsort_Sorter_Stats _ _ _ ?_
  refine (At.init w F0).alK fun b w1 _ h1 _ => ifK_t rfl ?_
  refine h1.st 0 rfl (Nat.le_refl 3) fun w2 h2 _ => ?_
  exact h2.ld 0 (k := .int .i64) 0 rfl rfl (h2.ld 0 (k := .int .i64) 0 rfl rfl (h2.ld 0 (k := .int .i64) 0 rfl rfl (hK _ h2.mod)))
theorem shut_nil {K : Int → World → Prop} (hK : K 1 w) : callK Tryz.prog c_extsort_Stream_Close [.leaf (.ptr none)] w (.one (.leaf (.int .i64))) K := by
  refine go_extsort_Stream_Close _ _ _ ?_
  exact ifK_t rfl hK
theorem nil_walk {p : Int} {k v : Str} {K : Bool → World → Prop} (hK : ∀ w', Mod F0 w w' → K true w') : callK Tryz.prog c_winnowlaw12_ExtsortNil [.agg [.int .i64 p, .str k, .str v]] w (.one (.leaf .bool)) K := by
  refine go_winnowlaw12_ExtsortNil _ _ _ _ _ ?_
  unfold S_winnowlaw12_ExtsortNil
  refine (At.init w F0).alK fun b1 w1 _ h1 _ => finish_nil (next_nil fun w2 M2 => ?_)
  have h2 := h1.keep0 M2 fun _ => id
  refine h2.alK fun b3 w3 _ h3 _ => ?_
  refine h3.st 1 rfl (Nat.le_refl 3) fun w4 h4 _ => ?_
  refine join1 (a := .bool) (fun b w' => b = true ∧ Mod F0 w w') (fun kk hk => ?_) fun b w' h => by obtain ⟨rfl, h⟩ := h; exact hK _ h
  refine h4.ld 0 (k := .int .i64) p rfl rfl (h4.ld 0 (k := .str) k rfl rfl (h4.ld 0 (k := .str) v rfl rfl (add_nil fun w5 M5 => ?_)))
  have h5 := h4.keep0 M5 fun _ => id
  refine ifK_t rfl (ifK_t rfl (ifK_t rfl (stats_nil fun w6 M6 => ?_)))
  have h6 := h5.keep0 M6 fun _ => id
  refine eqlK (d := 3) (ks := [.int .i64, .int .i64, .int .i64]) (xs := [.int .i64 0, .int .i64 0, .int .i64 0]) (ys := [.int .i64 0, .int .i64 0, .int .i64 0]) (by kernel_rfl) (by decide) (by kernel_rfl) (by kernel_rfl) rfl rfl rfl rfl (ifK_t rfl ?_)
  refine h6.ld 1 (k := .int .i64) 0 rfl rfl (h6.ld 1 (k := .str) [] rfl rfl (h6.ld 1 (k := .str) [] rfl rfl ?_))
  refine eqlK (d := 3) (ks := [.int .i64, .str, .str]) (xs := [.int .i64 0, .str [], .str []]) (ys := [.int .i64 0, .str [], .str []]) (by kernel_rfl) (by decide) (by kernel_rfl) (by kernel_rfl) rfl rfl rfl rfl (ifK_t rfl ?_)
  exact ifK_t rfl (ifK_t rfl (shut_nil (hk _ _ ⟨rfl, h6.mod⟩)))
end Go.Proofs.YtjefbjfifjjpmadGreat
