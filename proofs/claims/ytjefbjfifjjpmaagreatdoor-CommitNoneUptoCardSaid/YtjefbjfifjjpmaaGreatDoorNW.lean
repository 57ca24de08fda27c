/- CommitNone, walked: reading, committing, cleaning without a store. -/
import Derived.Test.YtjefbjfifjjpmaaGreatDoorSN
import Derived.Test.YtjefbjfifjjpmaaGreatDoorLB
namespace Go.Proofs.YtjefbjfifjjpmaaGreatDoor
open Go.Vw

theorem read_nil {w : World} {out : Str} {K : Sl → Int → World → Prop} (hK : ∀ w', Mod (fun _ => False) w w' → K ⟨none, 0, 0⟩ 1 w') : callK Tryz.prog c_commit_Read [.leaf (.ptr none), .leaf (.str out)] w (.tup [.leaf .sl, .leaf (.int .i64)]) K := by
  refine go_commit_Read _ _ _ _ ?_
  unfold S_commit_Read
  refine (At.init w fun _ => False).alK fun b w1 _ h1 _ => h1.alK fun b2 w2 _ h2 _ => ?_
  exact h2.ld 0 (k := .ptr) none rfl rfl (ifK_t rfl (hK _ h2.mod))
theorem commit_nil {w : World} {out : Str} {s : Sl} {K : Int → World → Prop} (hK : ∀ w', Mod (fun _ => False) w w' → K 1 w') : callK Tryz.prog c_commit_Commit [.leaf (.ptr none), .leaf (.str out), .leaf (.sl s)] w (.one (.leaf (.int .i64))) K := by
  refine go_commit_Commit _ _ _ _ _ ?_
  unfold S_commit_Commit
  exact ifK_t rfl (hK _ (Mod.refl _ _))
theorem clean_nil {w : World} {out : Str} {K : Int → World → Prop} (hK : ∀ w', Mod (fun _ => False) w w' → K 0 w') : callK Tryz.prog c_commit_Clean [.leaf (.ptr none), .leaf (.str out)] w (.one (.leaf (.int .i64))) K := by
  refine go_commit_Clean _ _ _ _ ?_
  unfold S_commit_Clean
  exact join1 (a := .bool) (fun b w' => b = true ∧ Mod (fun _ => False) w w') (fun k hk => ifK_t rfl (hk _ _ ⟨rfl, Mod.refl _ _⟩)) fun b w' h => ifK_t h.1 (hK _ h.2)
theorem none_walk {w : World} {out : Str} {s : Sl} {K : Bool → World → Prop} (hK : ∀ w', Mod (fun _ => False) w w' → K true w') : callK Tryz.prog c_winnowlaw20_CommitNone [.leaf (.str out), .leaf (.sl s)] w (.one (.leaf .bool)) K := by
  refine go_winnowlaw20_CommitNone _ _ _ _ ?_
  unfold S_winnowlaw20_CommitNone
  refine read_nil fun w1 M1 => ?_
  refine join1 (a := .bool) (fun b w' => b = true ∧ Mod (fun _ => False) w w') (fun k hk => ?_) fun b w' h => by obtain ⟨rfl, h⟩ := h; exact hK _ h
  refine commit_nil fun w2 M2 => ifK_t rfl (ifK_t rfl (ifK_t rfl (clean_nil fun w3 M3 => hk _ _ ⟨rfl, mod0 M1 (mod0 M2 M3)⟩)))
end Go.Proofs.YtjefbjfifjjpmaaGreatDoor
