/- The document's own store: Read. -/
import Derived.Test.YtjldecomhpngmaaXA
namespace Go.Proofs.Ytjldecomhpngmaa
open Go.Vw

section
variable {w0 w : World} {D : Nat → Prop} {g : RG}
theorem ask50 {n : Str} {a : Abs} (h : askA n a = (50, none)) : goodN n = false := by
  unfold askA at h
  split at h
  · assumption
  · split at h <;> simp at h
theorem side_nil {m : BL} (hA : At w0 D m w) : At w0 D (m ++ []) w := by rw [List.append_nil]; exact hA
theorem rread_ok (hA : At w0 D g.parts.flatten w) (hg : g.ok) (n : Str) (hn : n.length ≤ 1099511627776) (at_ k : Int) (hat : at_ ≤ 9223372036854775807) {K : Sl → Int → World → Prop}
    (hK : ∀ (sl : Sl) (ro : BL) (g' : RG) (w' : World), At w0 D (g'.parts.flatten ++ ro) w' → g'.ok → g'.q = g.q → g'.abs = g.abs → g'.mt = (readS n at_ k g.abs g.mt).2.2 → VecL ro EU sl (readS n at_ k g.abs g.mt).2.1 → (readS n at_ k g.abs g.mt).2.1.length ≤ 268435456 → K sl (readS n at_ k g.abs g.mt).1 w') :
    callK Try.prog 43 [.leaf (.ptr (some (g.q, 0))), .leaf (.str n), .leaf (.int .i64 at_), .leaf (.int .i64 k)] w (.tup [.leaf .sl, .leaf (.int .i64)]) K := by
  refine go_winnowref5_Store_Read _ _ _ _ _ _ ?_
  have fin : ∀ c, readS n at_ k g.abs g.mt = (c, [], g.mt) → K ⟨none, 0, 0⟩ c w := fun c e1 => by
    rw [e1] at hK
    exact hK _ [] g w (side_nil hA) hg rfl rfl rfl (VecL.nil EU) (Nat.zero_le _)
  refine rask_ok hA hg n hn (fun c hc hc2 hc3 => ?_) fun i x hx hxn hpre hask => ?_
  · refine join1 (fun t u => u = w ∧ t = (c == 50)) ?_ ?_
    · intro kk hkk
      refine ifK_f (by rcases hc2 with rfl | rfl <;> rfl) (hkk _ _ ⟨rfl, rfl⟩)
    rintro t u ⟨rfl, rfl⟩
    rcases hc2 with rfl | rfl
    · exact ifK_t rfl (fin 50 (by unfold readS; rw [if_pos (ask50 hc)]))
    · obtain ⟨hgd, _⟩ := hc3 rfl
      refine ifK_f rfl (ifK_intro (fun hk => ?_) fun hk => ifK_t rfl ?_)
      · have hk : k < 0 := by simpa using hk
        exact fin 3 (by unfold readS; rw [if_neg (by rw [hgd]; simp), if_pos hk])
      · have hk : ¬ k < 0 := by simpa using hk
        refine fin 52 ?_
        unfold readS readA
        rw [if_neg (by rw [hgd]; simp), if_neg hk, hc]
  have hgd : ¬ goodN n = false := fun h => by
    have : askA n g.abs = (50, none) := by unfold askA; rw [if_pos h]
    rw [this] at hask; cases hask
  refine join1 (fun t u => u = w ∧ t = false) ?_ ?_
  · intro kk hkk
    exact ifK_f rfl (hkk _ _ ⟨rfl, rfl⟩)
  rintro t u ⟨rfl, rfl⟩
  refine ifK_f rfl (ifK_intro (fun hk => ?_) fun hk => ifK_f rfl ?_)
  · have hk : k < 0 := by simpa using hk
    exact fin 3 (by unfold readS; rw [if_neg hgd, if_pos hk])
  have hk : ¬ k < 0 := by simpa using hk
  refine dr_some (RG.ldQ hA (k := .sl) g.lS rfl (rix hA hg hx fun bL hp hkb => ?_))
  refine RG.ldE hA hg.vL hx hp (by decide) (k := .bool) x.2.2.out rfl ?_
  refine ifK_intro (fun ho => ?_) fun ho => ?_
  · have ho : x.2.2.out = false := by simpa using ho
    exact fin 53 (by unfold readS readA; rw [if_neg hgd, if_neg hk, hask]; simp [ho])
  have ho : x.2.2.out = true := by simpa using ho
  have ha : readA n g.abs = (0, some x.2.2) := by unfold readA; rw [hask]; simp [ho]
  obtain ⟨hok, hsl⟩ := RG.okE hg hx
  have hk3 := hok.len
  have hrd := RG.dataRd hA hg hx
  refine dr_some (RG.ldQ hA (k := .sl) g.lS rfl (rix hA hg hx fun bL2 hp2 _ => ?_))
  refine RG.ldE hA hg.vL hx hp2 (by decide) (k := .sl) x.2.1 rfl ?_
  rw [hsl]
  refine join1 (fun c v => v = u ∧ (c = true ↔ at_ < 0 ∨ (x.2.2.data.length : Int) < at_)) ?_ ?_
  · intro k2 hk2
    refine ifK_intro (fun h2 => hk2 _ _ ⟨rfl, ?_⟩) fun h2 => hk2 _ _ ⟨rfl, ?_⟩
    · have h2 : at_ < 0 := by simpa using h2
      exact ⟨fun _ => .inl h2, fun _ => rfl⟩
    · have h2 : ¬ at_ < 0 := by simpa using h2
      rw [decide_eq_true_eq]; omega
  rintro c v ⟨rfl, hc⟩
  refine ifK_intro (fun h2 => ?_) fun h2 => ?_
  · exact fin 56 (by unfold readS; rw [if_neg hgd, if_neg hk, ha]; simp only; rw [if_pos (hc.1 h2)])
  have h2 : ¬ (at_ < 0 ∨ (x.2.2.data.length : Int) < at_) := fun x => by rw [hc.2 x] at h2; cases h2
  have e1 : readS n at_ k g.abs g.mt = (0, (x.2.2.data.drop at_.toNat).take k.toNat, (w64 (g.m1 + 1), w64 (g.m2 + ((x.2.2.data.drop at_.toNat).take k.toNat).length), mxI g.m3 ((x.2.2.data.drop at_.toNat).take k.toNat).length)) := by
    unfold readS; rw [if_neg hgd, if_neg hk, ha]; simp only; rw [if_neg h2]; rfl
  rw [e1] at hK
  clear fin
  generalize hq : at_.toNat = q at *
  have hqa : (q : Int) = at_ := by omega
  have hqd : q ≤ x.2.2.data.length := by omega
  generalize hnn : ((x.2.2.data.drop q).take k.toNat).length = nn at *
  have hnn' : nn = min k.toNat (x.2.2.data.length - q) := by rw [← hnn]; simp
  have hsub : w64 ((x.2.2.data.length : Int) - at_) = (x.2.2.data.length : Int) - at_ := by rw [w64_in (by omega) (by omega)]
  rw [hsub]
  refine join1 (a := .int .i64) (fun (z : Int) u => u = v ∧ z = nn) ?_ ?_
  · intro k26 hk26
    refine ifK_intro (fun h3 => hk26 _ _ ⟨rfl, ?_⟩) fun h3 => hk26 _ _ ⟨rfl, ?_⟩
    · have h3 : (x.2.2.data.length : Int) - at_ < k := by simpa using h3
      omega
    · have h3 : ¬ (x.2.2.data.length : Int) - at_ < k := by simpa using h3
      omega
  rintro z u ⟨rfl, rfl⟩
  refine dr_some (RG.ldQ hA (k := .sl) g.lS rfl (rix hA hg hx fun bL3 hp3 _ => ?_))
  refine RG.ldE hA hg.vL hx hp3 (by decide) (k := .sl) x.2.1 rfl ?_
  have hsum : w64 (at_ + (nn : Int)) = ((q + nn : Nat) : Int) := by rw [w64_in (by omega) (by omega)]; omega
  rw [hsum]
  have hcap := hrd.has
  refine ⟨q, q + nn, x.2.1.cap, hqa, rfl, rfl, by omega, by omega, Nat.le_refl _, ?_⟩
  have hr6 : RdS u EU (x.2.1.cut 1 q (q + nn) x.2.1.cap) ((x.2.2.data.take (q + nn)).drop q) := RdS.cutR hrd (by omega) (by omega) (by omega)
  have hl6 : ((x.2.2.data.take (q + nn)).drop q) = (x.2.2.data.drop q).take k.toNat := by
    rw [List.drop_take, Nat.add_sub_cancel_left, ← hnn, List.length_take]; exact List.take_eq_take_min.symm
  rw [hl6] at hr6
  refine appL (m := g.parts.flatten) (ro := []) (l := ([] : List Int)) (side_nil hA) (E := EU) (VecL.nil EU) hr6 rfl rfl (by simp; omega) fun a ro w2 hA2 hv hM2 _ => ?_
  rw [List.nil_append] at hv
  have hA2 : At w0 D (g.parts ++ [ro]).flatten w2 := by rw [List.flatten_append]; simpa using hA2
  have ldq : ∀ {g : RG} {u : World} (hA : At w0 D (g.parts ++ [ro]).flatten u) {k : Kd} {o : Nat} (y : Den k) {K : Den k → Prop}, g.qc[o]? = some (LV.mk k y).toV → K y → Go.Vw.ld u k g.q o K := fun {g u} hA {k o} y {K} hy hK => hA.ldP (i := 0) (b := g.q) (c := g.qc) rfl y hy hK
  refine dr_some (ldq hA2 (k := .int .i64) g.m1 rfl (dr_some ?_))
  refine hA2.stP (i := 0) (b := g.q) (c := g.qc) rfl (by simp [RG.qc]) fun w3 hA3 _ => ?_
  let g1 : RG := { g with m1 := w64 (g.m1 + 1) }
  have hA3 : At w0 D (g1.parts ++ [ro]).flatten w3 := hA3
  refine dr_some (ldq hA3 (k := .int .i64) g.m2 rfl (dr_some ?_))
  refine hA3.stP (i := 0) (b := g1.q) (c := g1.qc) rfl (by simp [RG.qc]) fun w4 hA4 _ => ?_
  let g2 : RG := { g with m1 := w64 (g.m1 + 1), m2 := w64 (g.m2 + nn) }
  have hA4 : At w0 D (g2.parts ++ [ro]).flatten w4 := hA4
  refine dr_some (ldq hA4 (k := .int .i64) g.m3 rfl ?_)
  refine join0 (fun w5 => ∃ g3 : RG, At w0 D (g3.parts ++ [ro]).flatten w5 ∧ g3.ok ∧ g3.q = g.q ∧ g3.abs = g.abs ∧ g3.mt = (w64 (g.m1 + 1), w64 (g.m2 + nn), mxI g.m3 nn)) ?_ ?_
  · intro k53 hk53
    refine ifK_intro (fun h3 => dr_some ?_) fun h3 => ?_
    · have h3 : g.m3 < nn := by simpa using h3
      refine hA4.stP (i := 0) (b := g2.q) (c := g2.qc) rfl (by simp [RG.qc]) fun w5 hA5 _ => ?_
      refine hk53 _ ⟨{ g with m1 := w64 (g.m1 + 1), m2 := w64 (g.m2 + nn), m3 := nn }, hA5, ⟨hg.vL, hg.n, hg.len, hg.vec⟩, rfl, rfl, ?_⟩
      unfold mxI RG.mt; rw [if_pos h3]
    · have h3 : ¬ g.m3 < nn := by simpa using h3
      refine hk53 _ ⟨g2, hA4, ⟨hg.vL, hg.n, hg.len, hg.vec⟩, rfl, rfl, ?_⟩
      unfold mxI RG.mt; rw [if_neg h3]
  · rintro w5 ⟨g3, hA5, hg5, hq5, ha5, hm5⟩
    rw [List.flatten_append, List.flatten_singleton] at hA5
    exact hK a ro g3 w5 hA5 hg5 hq5 ha5 hm5 hv (by omega)
end
end Go.Proofs.Ytjldecomhpngmaa
