/- head: a blob is written, published, read. -/
import Derived.Test.YtjldecomhpngmaaVE
namespace Go.Proofs.Ytjldecomhpngmaa
open Go.Vw

theorem good_a : goodN [97] = true := rfl
theorem good_b : goodN [98] = true := rfl
theorem ab_ne : ¬ ([98] : Str) = [97] := by decide
theorem ba_ne : ¬ ([97] : Str) = [98] := by decide
/-- head -/
theorem head_ok {w : World} {K : Bool → World → Prop} (hK : ∀ w', Mod F0 w w' → K true w') : callK Try.prog 17 [] w (.one (.leaf .bool)) K := by
  refine go_winnowlaw5_head _ _ ?_
  refine new_ok (At.init w F0) fun g w1 h1 _ ha1 ht1 _ _ _ => ?_
  let A1 : Abs := [([97], { Bl.new with data := [1, 2, 3] })]
  refine join1 (fun c u => c = false ∧ ∃ g', g'.bs = g.bs ∧ StA w [] 0 g' u ∧ g'.abs = A1 ∧ g'.mt = (0, 0, 0)) ?_ ?_
  · intro k hk
    refine ifK_f rfl (create_ok h1 [97] fun g2 w2 h2 => ?_)
    have e2 : createA [97] g.abs = (0, [([97], Bl.new)]) := by rw [ha1]; rfl
    rw [e2] at h2 ⊢
    refine ifK_f rfl ?_
    refine h2.st.alS fun b w3 hb h3 hM3 => ?_
    have hr : ∀ w', At w F0 ([] ++ [(b, [LV.toV (.int .u8 1), LV.toV (.int .u8 2), LV.toV (.int .u8 3)])]) w' → RdS w' EU ⟨some (b, 0), 3, 3⟩ [1, 2, 3] := fun w' hA => by
      have hb : Blk w' b [LV.toV (.int .u8 1), LV.toV (.int .u8 2), LV.toV (.int .u8 3)] := hA.own (b, _) (by simp)
      refine ⟨rfl, .inr ⟨b, 0, rfl, fun i hi => ?_⟩, Nat.le_refl _⟩
      rw [hb.cell, Nat.zero_add]
      rfl
    rw [← h2.bs]
    refine append_ok h3 [97] hr (by decide) (by decide) fun g4 w4 h4 => ?_
    have e4 : appendA [97] [1, 2, 3] g2.abs = (0, A1) := by rw [h2.abs]; rfl
    rw [e4] at h4 ⊢
    exact hk _ _ ⟨rfl, g4, by rw [h4.bs, h2.bs], h4.st.less (by simp), h4.abs, by rw [h4.mt, h2.mt, ht1]⟩
  rintro c u ⟨rfl, g', hbs, hs, ha, ht⟩
  refine ifK_f rfl ?_
  rw [← hbs]
  refine read_ok hs [97] 0 9 (by decide) fun sl ro g5 w5 h5 hv5 => ?_
  have e5 : readS [97] 0 9 g'.abs g'.mt = (53, [], (0, 0, 0)) := by rw [ha, ht]; rfl
  rw [e5] at h5 hv5 ⊢
  have hs5 := h5.st.less (m' := []) (by simp)
  rw [← h5.bs]
  refine publish_ok hs5 [97] fun g6 w6 h6 => ?_
  have e6 : publishA [97] g5.abs = (0, [([97], { Bl.new with data := [1, 2, 3], out := true })]) := by rw [h5.abs, ha]; rfl
  rw [e6] at h6 ⊢
  rw [← h6.bs]
  refine read_ok h6.st [97] 1 9 (by decide) fun sl7 ro7 g7 w7 h7 hv7 => ?_
  have e7 : readS [97] 1 9 g6.abs g6.mt = (0, [2, 3], (1, 2, 2)) := by rw [h6.abs, h6.mt, h5.mt]; rfl
  rw [e7] at h7 hv7 ⊢
  refine join1 (fun c u => c = true ∧ Mod F0 w u) ?_ ?_
  · intro k hk
    refine ifK_t rfl (ifK_t rfl (ifK_t rfl ?_))
    refine h7.st.alS fun b w8 hb h8 hM8 => ?_
    have hr1 : RdS w8 EU sl7 [2, 3] := hv7.rd fun p hp => h8.at_.own p (by simp [hp])
    have hr2 : RdS w8 EU ⟨some (b, 0), 2, 2⟩ [2, 3] := by
      have hb : Blk w8 b [LV.toV (.int .u8 2), LV.toV (.int .u8 3)] := h8.at_.own (b, _) (by simp)
      refine ⟨rfl, .inr ⟨b, 0, rfl, fun i hi => ?_⟩, Nat.le_refl _⟩
      rw [hb.cell, Nat.zero_add]
      rfl
    exact same_ok hr1 hr2 (by decide) (by decide) fun w9 hM9 => hk _ _ ⟨by decide, mod0 h8.at_.mod hM9⟩
  · rintro c u ⟨rfl, hM⟩
    exact hK u hM
end Go.Proofs.Ytjldecomhpngmaa
