/- StoreSizes: what the law does. -/
import Derived.Test.YtjldecomhpngmaaVG
import Derived.Test.YtjldecomhpngmaaVH
namespace Go.Proofs.Ytjldecomhpngmaa
open Go.Vw

def cutTo (d : List Int) (k : Int) : List Int := if 0 < k then d ++ List.replicate k.toNat 0 else d.take (d.length + k).toNat
theorem cutTo_len {d : List Int} {k : Int} (h : -(d.length : Int) ≤ k) : ((cutTo d k).length : Int) = d.length + k := by
  unfold cutTo
  split
  · simp; omega
  · simp; omega
theorem cutTo_lo {d : List Int} {k : Int} {i : Nat} (h : i < (cutTo d k).length) (hi : i < d.length) : (cutTo d k)[i]? = d[i]? := by
  unfold cutTo at h ⊢
  split
  · rw [List.getElem?_append_left hi]
  · rename_i hk
    rw [if_neg hk] at h
    rw [List.getElem?_take_of_lt (by simp at h; omega)]
theorem cutTo_hi {d : List Int} {k : Int} {i : Nat} (h : i < (cutTo d k).length) (hi : d.length ≤ i) : (cutTo d k)[i]? = some 0 := by
  unfold cutTo at h ⊢
  split
  · rename_i hk
    rw [if_pos hk] at h
    rw [List.getElem?_append_right hi, List.getElem?_replicate, if_pos (by simp at h; omega)]
  · rename_i hk
    rw [if_neg hk] at h
    simp at h; omega
theorem resize_a (d : List Int) (k : Int) : resizeA [97] k (blA d false) = if k < -(d.length : Int) ∨ 268435456 - (d.length : Int) < k then (56, blA d false) else (0, blA (cutTo d k) false) := by
  simp only [resizeA, askA, getA, good_a, blA, cutTo]
  simp only [if_true, Bool.true_eq_false, if_false, putA]
  split
  · rfl
  · split <;> rfl
theorem size_a (d : List Int) : sizeA [97] (blA d true) = ((d.length : Int), 0) := by
  simp [sizeA, readA, askA, getA, good_a, blA]
theorem sizes_walk {w : World} {data : Sl} {d : List Int} (hd : RdS w EU data d) (hdl : d.length ≤ 1048576) (hby : ∀ x ∈ d, 0 ≤ x ∧ x < 256) {by_ : Int} (hb1 : -9223372036854775808 ≤ by_) (hb2 : by_ ≤ 9223372036854775807)
    {K : Bool → World → Prop} (hK : ∀ w', Mod F0 w w' → K true w') : callK Try.prog 5 [.leaf (.sl data), .leaf (.int .i64 by_)] w (.one (.leaf .bool)) K := by
  refine go_winnowlaw5_StoreSizes _ _ _ _ ?_
  refine fit_ok (by rw [hd.len]; omega) ?_
  refine new_ok (At.init w F0) fun g w1 h1 _ ha1 ht1 _ _ _ => ?_
  have hdr : ∀ w', At w F0 [] w' → RdS w' EU data d := fun w' hA => hd.keep hA.mod fun _ _ => id
  have hdl' := hd.len
  rw [hdl']
  refine join1 (fun c u => c = false ∧ ∃ g', g'.bs = g.bs ∧ StA w [] 0 g' u ∧ g'.abs = blA d false ∧ g'.mt = (0, 0, 0)) ?_ ?_
  · intro k hk
    refine ifK_f rfl (create_ok h1 [97] fun g2 w2 h2 => ?_)
    have e2 : createA [97] g.abs = (0, [([97], Bl.new)]) := by rw [ha1]; rfl
    rw [e2] at h2 ⊢
    refine ifK_f rfl ?_
    rw [← h2.bs]
    refine append_ok h2.st [97] hdr (by omega) hby fun g4 w4 h4 => ?_
    have e4 : appendA [97] d g2.abs = (0, blA d false) := by rw [h2.abs]; exact append_a (by omega)
    rw [e4] at h4 ⊢
    exact hk _ _ ⟨rfl, g4, by rw [h4.bs, h2.bs], h4.st, h4.abs, by rw [h4.mt, h2.mt, ht1]⟩
  rintro c u ⟨rfl, g0, hbs0, hs0, ha0, ht0⟩
  refine ifK_f rfl ?_
  have hs1 : w64 (0 - (d.length : Int)) = -(d.length : Int) := by rw [w64_in (by omega) (by omega)]; omega
  have hs2 : w64 (268435456 - (d.length : Int)) = 268435456 - (d.length : Int) := by rw [w64_in (by omega) (by omega)]
  rw [hs1, hs2]
  refine join1 (fun c u' => u' = u ∧ (c = true ↔ 1048576 < by_ ∧ by_ ≤ 268435456 - (d.length : Int))) ?_ ?_
  · intro k hk
    refine ifK_intro (fun h2 => hk _ _ ⟨rfl, ?_⟩) fun h2 => hk _ _ ⟨rfl, ?_⟩
    · have h2 : 1048576 < by_ := by simpa using h2
      rw [decide_eq_true_eq]; omega
    · have h2 : ¬ 1048576 < by_ := by simpa using h2
      constructor
      · intro h; cases h
      · intro h; omega
  rintro c u' ⟨rfl, hc⟩
  refine join1 (fun (k : Int) u => u = u' ∧ k ≤ 9223372036854775807 ∧ -9223372036854775808 ≤ k ∧ (k ≤ 268435456 - (d.length : Int) → k ≤ 1048576)) ?_ ?_
  · intro k hk
    refine ifK_intro (fun h2 => hk _ _ ⟨rfl, by omega, by omega, by omega⟩) fun h2 => hk _ _ ⟨rfl, by omega, by omega, fun h => ?_⟩
    have : ¬ (1048576 < by_ ∧ by_ ≤ 268435456 - (d.length : Int)) := fun x => by rw [hc.2 x] at h2; cases h2
    omega
  intro k0 u hk0
  obtain ⟨k, hkk⟩ : ∃ k : Int, k = k0 := ⟨_, rfl⟩
  subst hkk
  obtain ⟨rfl, hk1, hk2, hk3⟩ : u = u' ∧ k ≤ 9223372036854775807 ∧ -9223372036854775808 ≤ k ∧ (k ≤ 268435456 - (d.length : Int) → k ≤ 1048576) := hk0
  rw [← hbs0]
  refine resize_ok hs0 [97] k fun g2 w2 h2 => ?_
  have e2 := resize_a d k
  rw [← ha0] at e2
  refine join1 (fun c u => u = w2 ∧ (c = true ↔ k < -(d.length : Int) ∨ 268435456 - (d.length : Int) < k)) ?_ ?_
  · intro k2 hk2
    refine ifK_intro (fun h2 => hk2 _ _ ⟨rfl, ?_⟩) fun h2 => hk2 _ _ ⟨rfl, ?_⟩
    · have h2 : k < -(d.length : Int) := by simpa using h2
      exact ⟨fun _ => .inl h2, fun _ => rfl⟩
    · have h2 : ¬ k < -(d.length : Int) := by simpa using h2
      rw [decide_eq_true_eq]; omega
  rintro c u' ⟨rfl, hc⟩
  refine ifK_intro (fun hcc => ?_) fun hcc => ?_
  · rw [if_pos (hc.1 hcc)] at e2
    rw [e2]
    have hM := h2.st.at_.mod
    refine join1 (fun c u => c = true ∧ Mod F0 w u) ?_ ?_
    · intro k hk
      exact ifK_t rfl (head_ok fun w' hM' => hk _ _ ⟨rfl, mod0 hM hM'⟩)
    · rintro c u ⟨rfl, hM⟩; exact hK u hM
  have hne : ¬ (k < -(d.length : Int) ∨ 268435456 - (d.length : Int) < k) := fun x => by rw [hc.2 x] at hcc; cases hcc
  rw [if_neg hne] at e2
  have hlen := cutTo_len (d := d) (k := k) (by omega)
  have hlo := fun i => @cutTo_lo d k i
  have hhi := fun i => @cutTo_hi d k i
  rw [e2] at h2 ⊢
  generalize cutTo d k = D2 at e2 h2 hlen hlo hhi
  have hD2 : (D2.length : Int) ≤ 2097152 := by omega
  rw [← h2.bs]
  refine publish_ok h2.st [97] fun g3 w3 h3 => ?_
  have e3 : publishA [97] g2.abs = (0, blA D2 true) := by rw [h2.abs]; exact publish_a D2
  rw [e3] at h3 ⊢
  rw [← h3.bs]
  refine size_ok h3.st [97] fun g4 w4 h4 => ?_
  have e4 : sizeA [97] g3.abs = ((D2.length : Int), 0) := by rw [h3.abs]; exact size_a D2
  rw [e4]
  have hsum : w64 ((d.length : Int) + k) = (D2.length : Int) := by rw [w64_in (by omega) (by omega)]; omega
  have hsum1 : w64 ((D2.length : Int) + 1) = ((D2.length + 1 : Nat) : Int) := step64 (by omega)
  simp only [hsum, hsum1]
  rw [← h4.bs]
  refine read_ok h4.st [97] 0 _ (by decide) fun sl ro g5 w5 h5 hv5 => ?_
  have e5 : readS [97] 0 ((D2.length + 1 : Nat) : Int) g4.abs g4.mt = (0, D2, (w64 (g4.mt.1 + 1), w64 (g4.mt.2.1 + D2.length), mxI g4.mt.2.2 D2.length)) := by
    rw [h4.abs, h3.abs, reads_a, if_neg (by omega), if_neg (by omega)]
    have : (D2.drop (0 : Int).toNat).take ((D2.length + 1 : Nat) : Int).toNat = D2 := by
      rw [Int.toNat_natCast]; exact List.take_of_length_le (by simp)
    rw [this]
  rw [e5] at h5 hv5 ⊢
  refine join1 (fun c u => c = false ∧ u = w5) ?_ ?_
  · intro k hk
    refine ifK_f rfl (ifK_f rfl (ifK_f rfl (ifK_f rfl (ifK_f (by simp) (hk _ _ ⟨?_, rfl⟩)))))
    rw [hv5.1]; simp
  rintro c u ⟨rfl, rfl⟩
  refine ifK_f rfl ?_
  refine join0 (fun u' => Mod F0 u u') ?_ (fun u' hu => head_ok fun w' hM => hK w' (mod0 (mod0 h5.st.at_.mod hu) hM))
  intro k41 hk41
  have hr2 : RdS u EU sl D2 := hv5.rd fun p hp => h5.st.at_.own p (by simp [hp])
  have hr1 : RdS u EU data d := hd.keep h5.st.at_.mod fun _ _ => id
  refine loop1 (k := .int .i64) (fun (i : Int) u' => Mod F0 u u' ∧ ∃ j : Nat, i = j ∧ j ≤ D2.length) (fun i _ => (D2.length - i).toNat) (x := 0) rfl ⟨Mod.refl _ _, 0, rfl, by omega⟩ ?_
  rintro i u' ⟨hM, j, rfl, hj⟩
  refine ifK_intro (fun h => ?_) fun h => hk41 _ hM
  have hlt : j < D2.length := dlt h
  refine join1 (fun c v => c = false ∧ v = u'.drew) ?_ ?_
  · intro k45 hk45
    refine ⟨F0, ?_⟩
    have hM2 : Mod F0 u u'.drew := mod0 hM (mod_drew u')
    have hr2' := hr2.keep hM2 fun _ _ => id
    have hr1' := hr1.keep hM2 fun _ _ => id
    refine ifK_intro (fun hi => ?_) fun hi => ?_
    · have hi : j < d.length := dlt hi
      refine hr2'.ix rfl rfl (List.getElem?_eq_getElem hlt) fun b1 o1 _ hc1 => ldD_cell (k := .int .u8) D2[j] id (EUcell hc1) ?_
      refine hr1'.ix rfl rfl (List.getElem?_eq_getElem hi) fun b2 o2 _ hc2 => ldD_cell (k := .int .u8) d[j] id (EUcell hc2) ?_
      have he : D2[j] = d[j] := by
        have := hlo j hlt hi
        rw [List.getElem?_eq_getElem hlt, List.getElem?_eq_getElem hi] at this
        exact Option.some.inj this
      refine ifK_f (by simp [he]) (ifK_f (by rw [decide_eq_false_iff_not]; omega) (hk45 _ _ ⟨rfl, rfl⟩))
    · have hi : d.length ≤ j := dge hi
      refine ifK_t (by rw [decide_eq_true_eq]; omega) ?_
      refine hr2'.ix rfl rfl (hhi j hlt hi) fun b1 o1 _ hc1 => ldD_cell (k := .int .u8) 0 id (EUcell hc1) (hk45 _ _ ⟨rfl, rfl⟩)
  rintro c v ⟨rfl, rfl⟩
  refine ifK_f rfl ⟨⟨mod0 hM (mod_drew u'), j + 1, step64 (by omega), by omega⟩, ?_⟩
  rw [step64 (by omega)]; omega
end Go.Proofs.Ytjldecomhpngmaa
