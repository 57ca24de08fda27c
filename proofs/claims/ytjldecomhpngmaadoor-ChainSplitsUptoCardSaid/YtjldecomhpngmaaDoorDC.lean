/- chain.Splits. -/
import Derived.Test.YtjldecomhpngmaaDoorDB
import Derived.Test.YtjldecomhpngmaaDoorDE
namespace Go.Proofs.YtjldecomhpngmaaDoor
open Go.Vw

theorem nx_w {T : Str} {to : Nat} (hto : to ≤ T.length) (hT : T.length ≤ 1048576) {n : Int} (hn : n = Go.Lib.indexByte (T.drop to) 10) : (0 ≤ n → w64 ((w64 ((to : Int) + n)) + 1) = ((nx T to : Nat) : Int)) ∧ (¬ 0 ≤ n → (T.length : Int) = ((nx T to : Nat) : Int)) := by
  obtain ⟨h1, h2⟩ := line_index (T.drop to)
  have hle := nx_le hto
  subst hn
  refine ⟨fun h => ?_, fun h => ?_⟩
  · have e := h1 h
    have e2 : ((nx T to : Nat) : Int) = to + (Go.Lib.indexByte (T.drop to) 10 + 1) := by rw [← e]; unfold nx; push_cast; rfl
    have : ((nx T to : Nat) : Int) ≤ T.length := by omega
    rw [w64_in (n := (to : Int) + Go.Lib.indexByte (T.drop to) 10) (by omega) (by omega), w64_in (by omega) (by omega)]
    omega
  · have e := h2 h
    unfold nx
    rw [e, List.length_drop]; omega
theorem join3 {a b c : Kd} {A : (Den a → Den b → Den c → World → Prop) → Prop} {K : Den a → Den b → Den c → World → Prop} (R : Den a → Den b → Den c → World → Prop) (hA : ∀ k : Den a → Den b → Den c → World → Prop, (∀ x y z w, R x y z w → k x y z w) → A k) (hK : ∀ x y z w, R x y z w → K x y z w) : joinK [a, b, c] A K := hA K hK
theorem map_app {α : Type} {o : Option (List α)} {l : List α} : (o.map (l ++ ·)).map id = o.map (l ++ ·) := by cases o <;> rfl
theorem splits_ok {w0 w : World} {D : Nat → Prop} {m : BL} (hA : At w0 D m w) {s : Sl} {l : List Str} (hr : RdS w EStr s l) (hl : l.length ≤ 1048576) (hT : l.flatten.length ≤ 1048576) {K : Sl → Int → World → Prop}
    (hK : ∀ t ro w', At w0 D (m ++ ro) w' → VecL ro ESs t (ansL l.flatten) → K t (ansC l.flatten) w') : callK Tryd.prog 5 [.leaf (.sl s)] w (.tup [.leaf .sl, .leaf (.int .i64)]) K := by
  refine go_chain_Splits _ _ _ ?_
  refine join_ok hr (by omega) (by omega) fun w3 hM3 => ?_
  have hA3 : At w0 D m w3 := hA.keep0 hM3 fun _ => id
  generalize hTT : l.flatten = T at hT hK
  refine ifK_f (by rw [decide_eq_false_iff_not]; omega) ?_
  have bad : ∀ u, At w0 D m u → prS T 0 0 = none → K ⟨none, 0, 0⟩ 2 u := fun u hu h => by
    have e : ansS T = none := by unfold ansS; rw [← pr_rf T 0 (Nat.zero_le _), h]
    obtain ⟨e1, e2⟩ := ans_none e
    rw [e1, e2] at hK
    exact hK _ [] u (by rw [List.append_nil]; exact hu) (VecL.nil ESs)
  have good : ∀ u t ro L, At w0 D (m ++ ro) u → VecL ro ESs t (L.map (sp T)) → prS T 0 0 = some L → ifK (decide (256 < (t.len : Int))) (K ⟨none, 0, 0⟩ 2 u) (K t 0 u) := fun u t ro L hu hv h => by
    have hlen : t.len = L.length := by rw [hv.1, List.length_map]
    rw [hlen]
    have hrf : rfS T 0 = some L := by rw [← pr_rf T 0 (Nat.zero_le _), h]
    refine ifK_intro (fun hb => ?_) fun hb => ?_
    · have hb : 256 < L.length := by have : (256 : Int) < (L.length : Int) := of_decide_eq_true hb; omega
      obtain ⟨e1, e2⟩ := ans_none (T := T) (by unfold ansS; rw [hrf]; simp only; rw [if_pos hb])
      rw [e1, e2] at hK
      exact hK _ [] u (by rw [List.append_nil]; exact hu.sub (List.sublist_append_left _ _)) (VecL.nil ESs)
    · have hb : ¬ 256 < L.length := by have : ¬ (256 : Int) < (L.length : Int) := of_decide_eq_false hb; omega
      obtain ⟨e1, e2⟩ := ans_some (T := T) (l := L) (by unfold ansS; rw [hrf]; simp only; rw [if_neg hb])
      rw [e1, e2] at hK
      exact hK _ ro u hu hv
  let I : Sl → Int → Int → World → Prop := fun t f to u => ∃ (fr to' : Nat) (ro : BL) (L : List (Nat × Nat)), f = fr ∧ to = to' ∧ fr ≤ to' ∧ to' ≤ T.length ∧ L.length ≤ fr ∧ At w0 D (m ++ ro) u ∧ VecL ro ESs t (L.map (sp T)) ∧ prS T 0 0 = (prS T fr to').map (L ++ ·)
  have grow : ∀ {u : World} {t : Sl} {ro : BL} {L : List (Nat × Nat)} {fr to : Nat} {K2 : Sl → World → Prop}, At w0 D (m ++ ro) u → VecL ro ESs t (L.map (sp T)) → L.length ≤ 1048576 → fr ≤ to → to ≤ T.length → (∀ t' ro' u', At w0 D (m ++ ro') u' → VecL ro' ESs t' ((L ++ [(fr, to)]).map (sp T)) → K2 t' u') →
      ssx T (some (fr : Int)) (some (to : Int)) fun s17 => al u 30 [.int .i64 (fr : Int), .str s17] fun b w => ap w 30 2 24 [.int .i64 0, .str []] t ⟨some (b, 0), 1, 1⟩ fun a w => K2 a w := by
    intro u t ro L fr to K2 hA hv hL h1 h2 hK2
    refine ⟨fr, to, rfl, rfl, h1, h2, ?_⟩
    refine hA.alK fun b u2 _ hA2 _ => ?_
    have hb : Blk u2 b (ESs.f (sp T (fr, to))) := hA2.own (b, _) (List.mem_append_right _ (List.mem_singleton.2 rfl))
    have hA2' : At w0 D (m ++ ro) u2 := hA2.sub (List.sublist_append_left _ _)
    refine appL hA2' hv (rd_one hb) rfl rfl (by simp only [List.length_map, List.length_cons, List.length_nil]; omega) fun t' ro' u3 hA3 hv3 _ _ => hK2 t' ro' u3 hA3 ?_
    rw [List.map_append]; exact hv3
  refine join3 (a := .sl) (b := .int .i64) (c := .int .i64) (fun (t : Sl) (f : Int) (to : Int) u => I t f to u ∧ to = T.length) ?_ ?_
  · intro k4 hk4
    refine loop3 (k1 := .sl) (k2 := .int .i64) (k3 := .int .i64) I (fun _ _ to _ => (T.length - to).toNat) (x1 := ⟨none, 0, 0⟩) (x2 := 0) (x3 := 0) rfl rfl rfl ⟨0, 0, [], [], rfl, rfl, Nat.le_refl _, Nat.zero_le _, Nat.le_refl _, by rw [List.append_nil]; exact hA3, VecL.nil ESs, by cases prS T 0 0 <;> rfl⟩ ?_
    rintro t f to u ⟨fr, to, ro, L, rfl, rfl, h1, h2, h3, hAu, hv, hp⟩
    refine ifK_intro (fun h => ?_) fun h => ?_
    rotate_left
    · have hge : T.length ≤ to := dge h
      exact hk4 _ _ _ _ ⟨⟨fr, to, ro, L, rfl, rfl, h1, h2, h3, hAu, hv, hp⟩, by omega⟩
    have hlt : to < T.length := dlt h
    have hg := nx_gt hlt
    have hle := nx_le h2
    refine ⟨to, T.length, rfl, rfl, h2, Nat.le_refl _, ?_⟩
    have e : (T.drop to).take (T.length - to) = T.drop to := List.take_of_length_le (by simp)
    rw [e]
    refine index_ok ?_
    obtain ⟨n1, n2⟩ := nx_w h2 hT (n := Go.Lib.indexByte (T.drop to) 10) rfl
    refine join1 (a := .int .i64) (fun (e : Int) v => e = ((nx T to : Nat) : Int) ∧ v = u) ?_ ?_
    · intro k13 hk13
      refine ifK_intro (fun h => hk13 _ _ ⟨n1 (of_decide_eq_true h), rfl⟩) fun h => hk13 _ _ ⟨n2 (of_decide_eq_false h), rfl⟩
    rintro e v ⟨rfl, rfl⟩
    have hpr := hp
    conv at hpr => rhs; unfold prS
    rw [dif_pos hlt] at hpr
    have e1 : w64 (((nx T to : Nat) : Int) - (to : Int)) = ((nx T to - to : Nat) : Int) := by rw [w64_in (by omega) (by omega)]; omega
    have e2 : w64 (((nx T to : Nat) : Int) - (fr : Int)) = ((nx T to - fr : Nat) : Int) := by rw [w64_in (by omega) (by omega)]; omega
    rw [e1, e2]
    refine ifK_intro (fun h4 => ?_) fun h4 => ?_
    · have h4 : 65536 < nx T to - to := by have : (65536 : Int) < ((nx T to - to : Nat) : Int) := of_decide_eq_true h4; omega
      rw [if_pos h4] at hpr
      exact bad _ (hAu.sub (List.sublist_append_left _ _)) hpr
    have h4 : ¬ 65536 < nx T to - to := by have : ¬ (65536 : Int) < ((nx T to - to : Nat) : Int) := of_decide_eq_false h4; omega
    rw [if_neg h4] at hpr
    refine join2 (a := .sl) (b := .int .i64) (fun (t' : Sl) (f' : Int) v' => ∃ (fr' : Nat) (ro : BL) (L : List (Nat × Nat)), f' = fr' ∧ fr' ≤ nx T to ∧ L.length ≤ fr' ∧ At w0 D (m ++ ro) v' ∧ VecL ro ESs t' (L.map (sp T)) ∧ prS T 0 0 = (prS T fr' (nx T to)).map (L ++ ·)) ?_ ?_
    · intro k16 hk16
      refine ifK_intro (fun h5 => ?_) fun h5 => ?_
      · have h5 : 65536 < nx T to - fr := by have : (65536 : Int) < ((nx T to - fr : Nat) : Int) := of_decide_eq_true h5; omega
        rw [if_pos h5] at hpr
        refine grow (K2 := fun a w => k16 a (to : Int) w) hAu hv (by omega) h1 h2 fun t' ro' u' hA' hv' => hk16 _ _ _ ⟨to, ro', _, rfl, by omega, by simp; omega, hA', hv', ?_⟩
        rw [hpr]
        cases prS T to (nx T to) <;> simp
      · have h5 : ¬ 65536 < nx T to - fr := by have : ¬ (65536 : Int) < ((nx T to - fr : Nat) : Int) := of_decide_eq_false h5; omega
        rw [if_neg h5] at hpr
        exact hk16 _ _ _ ⟨fr, ro, L, rfl, by omega, h3, hAu, hv, hpr⟩
    · rintro t' f' v' ⟨fr', ro', L', rfl, g1, g2, g3, g4, g5⟩
      exact ⟨⟨fr', nx T to, ro', L', rfl, rfl, g1, hle, g2, g3, g4, g5⟩, by omega⟩
  · rintro t f to u ⟨⟨fr, to', ro, L, rfl, rfl, h1, h2, h3, hAu, hv, hp⟩, hto⟩
    have hto : to' = T.length := by omega
    have hpr := hp
    conv at hpr => rhs; unfold prS
    rw [dif_neg (by omega)] at hpr
    refine join1 (a := .sl) (fun (t' : Sl) v => ∃ ro L, At w0 D (m ++ ro) v ∧ VecL ro ESs t' (L.map (sp T)) ∧ prS T 0 0 = some L) ?_ (by rintro t' v ⟨ro, L, g1, g2, g3⟩; exact good v t' ro L g1 g2 g3)
    intro k29 hk29
    refine ifK_intro (fun h4 => ?_) fun h4 => ?_
    · have h4 : fr < to' := dlt h4
      rw [if_pos h4] at hpr
      exact grow (K2 := fun a w => k29 a w) hAu hv (by omega) h1 h2 fun t' ro' u' hA' hv' => hk29 _ _ ⟨ro', _, hA', hv', hpr⟩
    · have h4 : ¬ fr < to' := by have := dge h4; omega
      rw [if_neg h4] at hpr
      exact hk29 _ _ ⟨ro, L, hAu, hv, by rw [hpr]; simp⟩
end Go.Proofs.YtjldecomhpngmaaDoor
