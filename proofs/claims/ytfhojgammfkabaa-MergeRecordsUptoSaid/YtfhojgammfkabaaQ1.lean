/- The look at what is stable. -/
import Derived.Test.YtfhojgammfkabaaQ0
namespace Go.Proofs.Ytfhojgammfkabaa
open Go.Vw

def lens (Ls : List (List Thing)) : Nat → Nat
  | 0 => 0
  | i + 1 => lens Ls i + (Ls[i]?.getD []).length
theorem lens_mono (Ls : List (List Thing)) {i j : Nat} (h : i ≤ j) : lens Ls i ≤ lens Ls j := by
  induction j with
  | zero => have : i = 0 := by omega
            subst this; exact Nat.le_refl _
  | succ j ih =>
    by_cases hij : i = j + 1
    · subst hij; exact Nat.le_refl _
    · rw [lens]; have := ih (by omega); omega
theorem rdT {w : World} {l : Sl} {xs : List Thing} (h : RdS w ET l xs) {i : Nat} {x : Thing} (hx : xs[i]? = some x) {K : Nat → Nat → Prop}
    (hK : ∀ b o, w.cell? ⟨b, o, none⟩ = some (LV.mk (.int .i64) x.1).toV → w.cell? ⟨b, o + 1, none⟩ = some (LV.mk (.int .i64) x.2).toV → K b o) : Go.Vw.ix l 2 (i : Int) K :=
  h.ix rfl rfl hx fun b o _ hc => hK b o (hc 0 (by decide)) (hc 1 (by decide))
theorem stable_ok {w : World} {l fr : Sl} {xs : List Thing} {ys : List (Sl × Int)} {Ls : List (List Thing)} (hl : RdS w ET l xs) (hf : RdS w ES fr ys) (hlen : Ls.length = ys.length) (hLs : ∀ (i : Nat) y L, ys[i]? = some y → Ls[i]? = some L → RdS w ET y.1 L)
    (hn : xs.length = lens Ls Ls.length) (hb1 : xs.length ≤ 1048576) (hb2 : ys.length ≤ 1048576) (hs : xs.Pairwise ltT) (hnm : ∀ x ∈ xs, 0 ≤ x.2 ∧ x.2 < xs.length) (hnd : (xs.map (·.2)).Nodup) (hin : ∀ L ∈ Ls, ∀ y ∈ L, y ∈ xs)
    {K : Bool → World → Prop} (hK : ∀ w', Mod (fun _ => False) w w' → K true w') : callK Try.prog 21 [.leaf (.sl l), .leaf (.sl fr)] w (.one (.leaf .bool)) K := by
  refine go_winnowlaw11_stable _ _ _ _ ?_
  unfold S_winnowlaw11_stable
  have hle : ∀ i, i ≤ ys.length → lens Ls i ≤ 1048576 := fun i hi => by have := lens_mono Ls (i := i) (j := Ls.length) (by omega); omega
  have hy : ∀ i (hi : i < ys.length), ys[i]? = some ys[i] := fun i hi => List.getElem?_eq_getElem hi
  have hL : ∀ i, i < ys.length → Ls[i]? = some (Ls[i]?.getD []) := fun i hi => by rw [List.getElem?_eq_getElem (by omega)]; rfl
  refine join1 (a := .int .i64) (fun x w' => x = (xs.length : Nat) ∧ w' = w) (fun k hk => ?_) ?_
  · refine loop2 (k1 := .int .i64) (k2 := .int .i64) (fun m x w' => ∃ i : Nat, x = i ∧ i ≤ ys.length ∧ m = (lens Ls i : Nat) ∧ w' = w) (fun _ x _ => ys.length - x.toNat) rfl rfl ⟨0, rfl, by omega, rfl, rfl⟩ ?_
    rintro m x w1 ⟨i, rfl, hi, rfl, hw1⟩
    rw [hw1]
    refine ifK_intro (fun hlt => ?_) (fun hlt => ?_)
    · have hlt' : i < ys.length := by rw [hf.len] at hlt; simpa using hlt
      refine hf.ix rfl rfl (hy i hlt') fun b o _ hc => ld_cell (k := .sl) ys[i].1 (hc 0 (by decide)) ?_
      have h1 : ys[i].1.len = (Ls[i]?.getD []).length := (hLs i _ _ (hy i hlt') (hL i hlt')).len
      have h2 := hle (i + 1) hlt'
      rw [lens] at h2
      have e1 : w64 (((lens Ls i : Nat) : Int) + (ys[i].1.len : Int)) = ((lens Ls (i + 1) : Nat) : Int) := by rw [h1, w64_in (by omega) (by omega), lens]; omega
      rw [e1, set_step (by omega)]
      exact ⟨⟨i + 1, rfl, hlt', rfl, rfl⟩, by simp; omega⟩
    · have hge : i = ys.length := by rw [hf.len] at hlt; simp at hlt; omega
      subst hge
      exact hk _ _ ⟨by rw [hn, hlen], rfl⟩
  · rintro _ w1 ⟨rfl, hw1⟩
    rw [hw1]
    refine ifK_f (by rw [hl.len]; simp) ?_
    refine Vec.mkK EB false xs.length rfl rfl (by omega) (by omega) fun w2 _ hb M2 => ?_
    have hA2 : At w (fun _ => False) [(w.heap.size, EB.cells (List.replicate xs.length false))] w2 := (At.init w _).mkAdd M2 hb (Nat.le_refl _)
    generalize w.heap.size = bs at hA2
    have hxi : ∀ i (hi : i < xs.length), xs[i]? = some xs[i] := fun i hi => List.getElem?_eq_getElem hi
    refine join0 (fun w' => ∃ seen, At w (fun _ => False) [(bs, EB.cells seen)] w') (fun k hk => ?_) ?_
    · refine loop1 (k := .int .i64) (fun x w' => ∃ (i : Nat) (seen : List Bool), x = i ∧ i ≤ xs.length ∧ seen.length = xs.length ∧ (∀ j, getB seen j = true → ∃ y ∈ xs.take i, y.2 = (j : Int)) ∧ At w (fun _ => False) [(bs, EB.cells seen)] w') (fun x _ => xs.length - x.toNat) rfl
        ⟨0, _, rfl, by omega, by simp, fun j hj => by simp [getB, List.getElem?_replicate] at hj; split at hj <;> simp_all, hA2⟩ ?_
      rintro x w3 ⟨i, seen, rfl, hi, hsl, hseen, hA3⟩
      refine ifK_intro (fun hlt => ?_) (fun hlt => hk _ ⟨seen, hA3⟩)
      have hlt' : i < xs.length := by rw [hl.len] at hlt; simpa using hlt
      have hnum := hnm _ (List.getElem_mem hlt')
      have key : ∀ w', At w (fun _ => False) [(bs, EB.cells seen)] w' → RdS w' ET l xs := fun w' h => hl.keep h.mod fun _ _ => id
      refine join1 (a := .bool) (fun b w' => b = false ∧ At w (fun _ => False) [(bs, EB.cells seen)] w') (fun k2 hk2 => ?_) ?_
      · refine ⟨fun _ => False, ?_⟩
        have hA4 := hA3.drew
        refine ifK_intro (fun h0 => ?_) (fun h0 => hk2 _ _ ⟨rfl, hA4⟩)
        have h0' : 0 < i := by simpa using h0
        have e0 : w64 ((i : Int) - 1) = ((i - 1 : Nat) : Int) := by rw [w64_in (by omega) (by omega)]; omega
        rw [e0]
        have hlt2 : ltT xs[i - 1] xs[i] := List.pairwise_iff_getElem.1 hs (i - 1) i (by omega) hlt' (by omega)
        have hr4 := key _ hA4
        have a1 : ∀ (K : Nat → Nat → Prop), (∀ b o, w3.drew.cell? ⟨b, o, none⟩ = some (LV.mk (.int .i64) xs[i - 1].1).toV → w3.drew.cell? ⟨b, o + 1, none⟩ = some (LV.mk (.int .i64) xs[i - 1].2).toV → K b o) → Go.Vw.ix l 2 ((i - 1 : Nat) : Int) K := fun K h => rdT hr4 (hxi (i - 1) (by omega)) h
        have a2 : ∀ (K : Nat → Nat → Prop), (∀ b o, w3.drew.cell? ⟨b, o, none⟩ = some (LV.mk (.int .i64) xs[i].1).toV → w3.drew.cell? ⟨b, o + 1, none⟩ = some (LV.mk (.int .i64) xs[i].2).toV → K b o) → Go.Vw.ix l 2 (i : Int) K := fun K h => rdT hr4 (hxi i hlt') h
        refine a1 _ fun b o c1 c2 => ldD_cell _ id c1 (a2 _ fun b' o' d1 d2 => ldD_cell _ id d1 (ifK_f (by unfold ltT at hlt2; simp; omega) ?_))
        refine a1 _ fun b o c1 c2 => ldD_cell _ id c1 (a2 _ fun b' o' d1 d2 => ldD_cell _ id d1 (ifK_intro (fun he => ?_) (fun he => hk2 _ _ ⟨rfl, hA4⟩)))
        refine a1 _ fun b o c1 c2 => ldD_cell _ id c2 (a2 _ fun b' o' d1 d2 => ldD_cell _ id d2 (hk2 _ _ ⟨?_, hA4⟩))
        have he' : xs[i - 1].1 = xs[i].1 := by simpa using he
        unfold ltT at hlt2
        simp; omega
      · rintro _ w4 ⟨rfl, hA4⟩
        refine ifK_f rfl ?_
        have hr4 := key _ hA4
        have a2 : ∀ (K : Nat → Nat → Prop), (∀ b o, w4.cell? ⟨b, o + 1, none⟩ = some (LV.mk (.int .i64) xs[i].2).toV → K b o) → Go.Vw.ix l 2 (i : Int) K := fun K h => rdT hr4 (hxi i hlt') fun b o _ h2 => h b o h2
        obtain ⟨m, hm⟩ : ∃ m : Nat, xs[i].2 = (m : Int) := ⟨xs[i].2.toNat, by omega⟩
        have hmlt : m < seen.length := by omega
        have hfalse : getB seen m = false := by
          cases hg : getB seen m with
          | false => rfl
          | true =>
            obtain ⟨z, hz, hze⟩ := hseen m hg
            obtain ⟨j, hj, hjz⟩ := List.mem_take_iff_getElem.1 hz
            have hjl : j < i := by omega
            have hne : ((xs.map (·.2))[j]'(by simp; omega)) ≠ (xs.map (·.2))[i]'(by simpa using hlt') := by
              intro e
              have hjm : j < (xs.map (·.2)).length := by rw [List.length_map]; omega
              have him : i < (xs.map (·.2)).length := by rw [List.length_map]; exact hlt'
              have hji : j = i := (List.getElem?_inj hjm hnd).1 (by rw [List.getElem?_eq_getElem hjm, List.getElem?_eq_getElem him, e])
              omega
            simp at hne
            rw [hjz, hze, hm] at hne
            exact absurd rfl hne
        have hcell : w4.cell? ⟨bs, 0 + (m : Int).toNat * 1, none⟩ = some (LV.mk .bool (getB seen m)).toV := by
          rw [(hA4.blk (i := 0) rfl).cell, Nat.zero_add]
          have := EB.cells_get seen m 0 (by decide)
          rw [Nat.add_zero] at this
          refine this.trans ?_
          rw [getB_at hmlt]; rfl
        refine join1 (a := .bool) (fun b w' => b = false ∧ At w (fun _ => False) [(bs, EB.cells seen)] w') (fun k2 hk2 => ?_) ?_
        · refine a2 _ fun b o c => ld_cell _ c (ifK_f (by simp; omega) ?_)
          refine a2 _ fun b o c => ld_cell _ c (ifK_f (by simp; omega) ?_)
          refine a2 _ fun b o c => ld_cell _ c ?_
          rw [hm]
          exact ix_some rfl (by omega) (show (m : Int) < (xs.length : Nat) by omega) (ld_cell _ hcell (hk2 _ _ ⟨hfalse, hA4⟩))
        · rintro _ w5 ⟨rfl, hA5⟩
          refine ifK_f rfl ?_
          refine rdT (key _ hA5) (hxi i hlt') fun b o _ c => ld_cell _ c ?_
          rw [hm]
          refine ix_some rfl (by omega) (show (m : Int) < (xs.length : Nat) by omega) ?_
          have hset := EB.cells_set seen m 0 [.bool true] (getB seen m) true [] (getB_at hmlt) (Nat.le_refl 1) rfl
          simp only [List.append_nil, Nat.add_zero] at hset
          refine hA5.st 0 rfl (by rw [EB.cells_length]; simp [EB]; omega) fun w6 hA6 _ => ?_
          rw [set_step (by omega)]
          refine ⟨⟨i + 1, seen.set m true, rfl, hlt', by simp [hsl], fun j hj => ?_, ?_⟩, by simp; omega⟩
          · rw [getB_set hmlt] at hj
            by_cases hjm : j = m
            · exact ⟨xs[i], by rw [List.mem_take_iff_getElem]; exact ⟨i, by omega, rfl⟩, by rw [hjm]; exact hm⟩
            · rw [if_neg hjm] at hj
              obtain ⟨z, hz, hze⟩ := hseen j hj
              exact ⟨z, (List.take_subset_take_left _ (by omega)) hz, hze⟩
          · have hset' : spl (EB.cells seen) (0 + (m : Int).toNat * 1) (List.map LV.toV [.lit true]) = EB.cells (seen.set m true) := by rw [Nat.zero_add]; exact hset
            simp only [List.set_cons_zero, hset'] at hA6
            exact hA6
    · rintro w3 ⟨seen, hA3⟩
      have M3 : Mod (fun _ => False) w w3 := hA3.mod
      have hf3 := hf.keep M3 fun _ _ => id
      have hl3 := hl.keep M3 fun _ _ => id
      refine join1 (a := .int .i64) (fun x w' => x = (xs.length : Nat) ∧ Mod (fun _ => False) w w') (fun k hk => ?_) ?_
      · refine loop2 (k1 := .int .i64) (k2 := .int .i64) (fun m x w' => ∃ i : Nat, x = i ∧ i ≤ ys.length ∧ m = (lens Ls i : Nat) ∧ Mod (fun _ => False) w w') (fun _ x _ => ys.length - x.toNat) rfl rfl ⟨0, rfl, by omega, rfl, M3⟩ ?_
        rintro m x w4 ⟨i, rfl, hi, rfl, M4⟩
        refine ifK_intro (fun hlt => ?_) (fun hlt => ?_)
        · have hlt' : i < ys.length := by rw [hf.len] at hlt; simpa using hlt
          have hLi := hL i hlt'
          generalize hLe : Ls[i]?.getD [] = L at hLi
          have hlenL : lens Ls (i + 1) = lens Ls i + L.length := by rw [lens, hLe]
          have hb := hle (i + 1) hlt'
          refine join1 (a := .int .i64) (fun x w' => x = (lens Ls (i + 1) : Nat) ∧ Mod (fun _ => False) w w') (fun k2 hk2 => ?_) ?_
          · refine loop2 (k1 := .int .i64) (k2 := .int .i64) (fun m x w' => ∃ c : Nat, x = c ∧ c ≤ L.length ∧ m = ((lens Ls i + c : Nat) : Int) ∧ Mod (fun _ => False) w w') (fun _ x _ => L.length - x.toNat) rfl rfl ⟨0, rfl, by omega, rfl, M4⟩ ?_
            rintro m x w5 ⟨c, rfl, hc, rfl, M5⟩
            have hrL := (hLs i _ _ (hy i hlt') hLi).keep M5 fun _ _ => id
            refine (hf.keep M5 fun _ _ => id).ix rfl rfl (hy i hlt') fun b o _ hcell => ld_cell (k := .sl) ys[i].1 (hcell 0 (by decide)) ?_
            refine ifK_intro (fun hclt => ?_) (fun hclt => ?_)
            · have hclt' : c < L.length := by rw [hrL.len] at hclt; simpa using hclt
              have hyc : L[c]? = some L[c] := List.getElem?_eq_getElem hclt'
              have hmem : L[c] ∈ xs := hin L (List.mem_of_getElem? hLi) _ (List.getElem_mem hclt')
              refine join1 (a := .bool) (fun b w' => b = true ∧ Mod (fun _ => False) w w') (fun k3 hk3 => ?_) ?_
              · refine loop2 (k1 := .bool) (k2 := .int .i64) (fun fd x w' => ∃ j : Nat, x = j ∧ j ≤ xs.length ∧ (fd = false → L[c] ∉ xs.take j) ∧ Mod (fun _ => False) w w') (fun _ x _ => xs.length - x.toNat) rfl rfl ⟨0, rfl, by omega, fun _ => by simp, M5⟩ ?_
                rintro fd x w6 ⟨j, rfl, hj, hfd, M6⟩
                refine join1 (a := .bool) (fun b w' => w' = w6 ∧ b = (decide (j < xs.length) && !fd)) (fun k4 hk4 => ?_) ?_
                · refine ifK_intro (fun h => hk4 _ _ ⟨rfl, ?_⟩) (fun h => hk4 _ _ ⟨rfl, ?_⟩)
                  · rw [hl.len] at h
                    have : j < xs.length := by simpa using h
                    simp [this]
                  · rw [hl.len] at h
                    have : ¬ j < xs.length := by simpa using h
                    simp [this]
                · rintro b w7 ⟨hw7, rfl⟩
                  rw [hw7]
                  refine ifK_intro (fun ht => ?_) (fun ht => ?_)
                  · simp only [Bool.and_eq_true, decide_eq_true_eq, Bool.not_eq_true'] at ht
                    obtain ⟨hjl, hfd0⟩ := ht
                    refine ⟨fun _ => False, ?_⟩
                    have M6d : Mod (fun _ => False) w w6.drew := M6.trans (Mod.drew _ _) (fun _ _ h => h) fun _ _ h => h
                    refine rdT (hl.keep M6d fun _ _ => id) (hxi j hjl) fun b o c1 c2 => ldD_cell _ id c1 (ldD_cell _ id c2 ?_)
                    refine (hf.keep M6d fun _ _ => id).ix rfl rfl (hy i hlt') fun b o _ hcell => ldD_cell (k := .sl) ys[i].1 id (hcell 0 (by decide)) ?_
                    refine rdT ((hLs i _ _ (hy i hlt') hLi).keep M6d fun _ _ => id) hyc fun b o d1 d2 => ldD_cell _ id d1 (ldD_cell _ id d2 ?_)
                    refine eq_thing ⟨Mod.refl _ _, ?_⟩
                    rw [set_step (by omega)]
                    refine ⟨⟨j + 1, rfl, hjl, fun hno hm => ?_, M6d⟩, by simp; omega⟩
                    rw [List.take_add_one, hxi j hjl] at hm
                    rcases List.mem_append.1 hm with hm | hm
                    · exact hfd hfd0 hm
                    · simp at hm
                      rw [hm] at hno
                      simp at hno
                  · refine hk3 _ _ ⟨?_, M6⟩
                    cases hfd' : fd with
                    | true => rfl
                    | false =>
                      rw [hfd'] at ht
                      have hge : xs.length ≤ j := by simpa using ht
                      have := hfd hfd'
                      rw [List.take_of_length_le hge] at this
                      exact absurd hmem this
              · rintro _ w6 ⟨rfl, M6⟩
                refine ifK_f rfl ?_
                have e1 : w64 (((lens Ls i + c : Nat) : Int) + 1) = ((lens Ls i + (c + 1) : Nat) : Int) := by rw [w64_in (by omega) (by omega)]; omega
                rw [e1, set_step (by omega)]
                exact ⟨⟨c + 1, rfl, hclt', rfl, M6⟩, by simp; omega⟩
            · have hge : c = L.length := by rw [hrL.len] at hclt; simp at hclt; omega
              subst hge
              exact hk2 _ _ ⟨by rw [hlenL], M5⟩
          · rintro _ w5 ⟨rfl, M5⟩
            rw [set_step (by omega)]
            exact ⟨⟨i + 1, rfl, hlt', rfl, M5⟩, by simp; omega⟩
        · have hge : i = ys.length := by rw [hf.len] at hlt; simp at hlt; omega
          subst hge
          exact hk _ _ ⟨by rw [hn, hlen], M4⟩
      · rintro _ w4 ⟨rfl, M4⟩
        have : (((xs.length : Nat) : Int) == ((xs.length : Nat) : Int)) = true := by simp
        rw [this]
        exact hK _ M4
end Go.Proofs.Ytfhojgammfkabaa
