/- MergeStable, walked. -/
import Derived.Test.YtfhojgammfkabaaQ4
import Derived.Test.YtfhojgammfkabaaMC
import Derived.Test.YtfhojgammfkabaaSStable
namespace Go.Proofs.Ytfhojgammfkabaa
open Go.Vw

theorem cat_rise {n : Nat} {Q : Nat → List Thing} (h1 : ∀ i, i < n → (Q i).Pairwise fun x y => x.2 < y.2) (h2 : ∀ i j, i < j → j < n → ∀ x ∈ Q i, ∀ y ∈ Q j, x.2 < y.2) : ∀ m, m ≤ n → (cat Q m).Pairwise fun x y => x.2 < y.2
  | 0, _ => List.Pairwise.nil
  | m + 1, hm => by
    rw [cat, List.pairwise_append]
    refine ⟨cat_rise h1 h2 m (by omega), h1 m (by omega), fun x hx y hy => ?_⟩
    obtain ⟨i, hi, hx⟩ := mem_cat.1 hx
    exact h2 i m hi (by omega) x hx y hy
theorem nameT_rise : ∀ (n : Nat) (l : List Thing), (nameT n l).Pairwise fun x y => x.2 < y.2
  | _, [] => List.Pairwise.nil
  | n, x :: l => by
    rw [nameT, List.pairwise_cons]
    refine ⟨fun y hy => ?_, nameT_rise (n + 1) l⟩
    obtain ⟨k, _, e⟩ := nameT_mem (n + 1) l y hy
    show (n : Int) < y.2
    omega
theorem tidyM_length : ∀ (n : Nat) (Ls : List (List Thing)), (tidyM n Ls).length = Ls.length
  | _, [] => rfl
  | n, L :: r => by simp [tidyM, tidyM_length _ r]
def TQ (Ls : List (List Thing)) (i : Nat) : List Thing := (tidyM 0 Ls)[i]?.getD []
theorem TQ_eq {Ls : List (List Thing)} {i : Nat} (hi : i < Ls.length) : TQ Ls i = nameT (lens Ls i) (sortT (Ls[i]?.getD [])) := by
  unfold TQ
  rw [tidyM_get, List.getElem?_eq_getElem hi]; simp
theorem TQ_len {Ls : List (List Thing)} : ∀ m, m ≤ Ls.length → remQ (TQ Ls) m = lens Ls m
  | 0, _ => rfl
  | m + 1, h => by rw [remQ, lens, TQ_len m (by omega), TQ_eq (by omega), nameT_length, sortT_length]
theorem TQ_names {Ls : List (List Thing)} {i : Nat} (hi : i < Ls.length) {x : Thing} (hx : x ∈ TQ Ls i) : (lens Ls i : Int) ≤ x.2 ∧ x.2 < (lens Ls (i + 1) : Nat) := by
  rw [TQ_eq hi] at hx
  obtain ⟨k, hk, e⟩ := nameT_mem _ _ x hx
  rw [sortT_length] at hk
  rw [lens]; omega
theorem TQ_rise {Ls : List (List Thing)} {i j : Nat} (hij : i < j) (hj : j < Ls.length) : ∀ x ∈ TQ Ls i, ∀ y ∈ TQ Ls j, x.2 < y.2 := fun x hx y hy => by
  have h1 := TQ_names (by omega) hx
  have h2 := TQ_names hj hy
  have := lens_mono Ls (i := i + 1) (j := j) (by omega)
  omega
theorem TQ_sorted {Ls : List (List Thing)} {n : Nat} (hn : n ≤ Ls.length) : Sorted n (TQ Ls) :=
  ⟨fun i hi => by rw [TQ_eq (by omega)]; exact nameT_sorted _ _ (sortT_sorted _), fun i j hij hj => TQ_rise hij (by omega)⟩
theorem stable_walk {w : World} {fr : Sl} {ys : List (Sl × Int)} {Ls : List (List Thing)} (hf : RdS w ES fr ys) (hlen : Ls.length = ys.length) (hLs : ∀ (i : Nat) y L, ys[i]? = some y → Ls[i]? = some L → RdS w ET y.1 L) (hb : lens Ls Ls.length ≤ 1048000) (hb2 : ys.length ≤ 1048576)
    {K : Bool → World → Prop} (hK : ∀ w', Mod (fun _ => False) w w' → K true w') : callK Try.prog 4 [.leaf (.sl fr)] w (.one (.leaf .bool)) K := by
  refine go_winnowlaw11_MergeStable _ _ _ ?_
  unfold S_winnowlaw11_MergeStable
  refine tidy_ok hf hlen hLs hb hb2 fun a2 w1 zs hz hzl hzz M1 => ?_
  have hN : zs.length ≤ Ls.length := by rw [hzl, hlen]; omega
  let Ts := (tidyM 0 Ls).take zs.length
  have hTl : Ts.length = zs.length := by simp [Ts, tidyM_length]; omega
  have hTi : ∀ i, i < zs.length → Ts[i]? = (tidyM 0 Ls)[i]? := fun i hi => by simp [Ts, List.getElem?_take, hi]
  have hlens : ∀ m, m ≤ zs.length → lens Ls m ≤ 1048000 := fun m hm => Nat.le_trans (lens_mono Ls (i := m) (j := Ls.length) (by omega)) hb
  have hTe : ∀ i L, Ts[i]? = some L → i < zs.length ∧ L = TQ Ls i := fun i L h => by
    have hi : i < zs.length := by have := (List.getElem?_eq_some_iff.1 h).1; omega
    rw [hTi i hi] at h
    exact ⟨hi, by unfold TQ; rw [h]; rfl⟩
  have hrd : ∀ (i : Nat) z L, zs[i]? = some z → Ts[i]? = some L → RdS w1 ET z.1 L := fun i z L h1 h2 => by
    obtain ⟨_, L', e, hr, _⟩ := hzz i z h1
    rw [hTi i (hTe i L h2).1, e] at h2
    cases h2; exact hr
  have hLlen : ∀ L ∈ Ts, L.length ≤ 1048000 := fun L hL => by
    obtain ⟨i, hi⟩ := List.mem_iff_getElem?.1 hL
    obtain ⟨hil, rfl⟩ := hTe i L hi
    have h1 := hlens (i + 1) hil
    rw [← TQ_len (i + 1) (by omega), remQ] at h1
    omega
  refine feeds_f hz Ts hTl hrd (by omega) (fun L hL => by have := hLlen L hL; omega) w1.heap.size (Nat.le_refl _) (fun z hzm b hb => ?_) fun a4 w2 fbs hok hI hv hbk hge M2 => ?_
  · obtain ⟨i, hi⟩ := List.mem_iff_getElem?.1 hzm
    obtain ⟨_, _, _, _, hlt⟩ := hzz i z hi
    exact hlt b hb.2
  have hen : (mkF zs Ts fbs w1.heap.size).en = fun _ => 0 := by
    funext i
    show (zs[i]?.map (·.2)).getD 0 = 0
    cases hzi : zs[i]? with
    | none => rfl
    | some z => exact (hzz i z hzi).1
  have hLq : ∀ i, i < zs.length → (mkF zs Ts fbs w1.heap.size).L i = TQ Ls i := fun i hi => by
    show Ts[i]?.getD [] = _
    rw [hTi i hi]; rfl
  have hrem : ∀ m, m ≤ zs.length → remQ (mkF zs Ts fbs w1.heap.size).L m = lens Ls m := by
    intro m
    induction m with
    | zero => intro _; rfl
    | succ m ih => intro hm; rw [remQ, ih (by omega), hLq m (by omega), TQ_eq (by omega), nameT_length, sortT_length, lens]
  have hsorted : Sorted zs.length (mkF zs Ts fbs w1.heap.size).L :=
    ⟨fun i hi => by rw [hLq i hi]; exact (TQ_sorted hN).each i hi, fun i j hij hj x hx y hy => by rw [hLq i (by omega)] at hx; rw [hLq j hj] at hy; exact (TQ_sorted hN).rise i j hij hj x hx y hy⟩
  refine run_ok hok hv.rd hI (by show zs.length ≤ 64; omega) (by show remQ _ zs.length ≤ _; rw [hrem _ (Nat.le_refl _)]; have := hlens _ (Nat.le_refl zs.length); omega) M2.size fun a6 w3 hout hob M3 => ?_
  obtain ⟨r1, r2, r3⟩ := runM_sorted hsorted
  rw [hen] at hout ⊢
  have hn' : (mkF zs Ts fbs w1.heap.size).n = zs.length := rfl
  rw [hn'] at hout ⊢
  rw [r1]
  generalize (runM zs.length (fun _ => 0) (mkF zs Ts fbs w1.heap.size).L).1 = xs at hout r2 r3
  have hFnot : ∀ b, b < w1.heap.size → ¬ ∃ i, i < zs.length ∧ b = (mkF zs Ts fbs w1.heap.size).fb i := by
    rintro b hb ⟨i, hi, e⟩
    have := hge i hi; omega
  have hz3 : RdS w3 ES a2 zs := by
    by_cases hz0 : zs = []
    · subst hz0; exact ⟨hz.len, .inl rfl, hz.has⟩
    · refine (hz.keep M2 fun _ _ => id).keep M3 fun b hb => hFnot b ?_
      obtain ⟨z, hz'⟩ : ∃ z, zs[0]? = some z := by cases zs with | nil => exact absurd rfl hz0 | cons z t => exact ⟨z, rfl⟩
      obtain ⟨b', o', hp, _, hc⟩ := hz.at hz'
      obtain ⟨_, o, hb⟩ := hb
      rw [hp] at hb; cases hb
      have h0 := hc 0 (by decide)
      exact cell_lt (h0.trans (by rfl : _ = some (LV.sl z.1).toV))
  have hrd3 : ∀ (i : Nat) z L, zs[i]? = some z → Ts[i]? = some L → RdS w3 ET z.1 L := fun i z L h1 h2 => by
    obtain ⟨_, _, _, _, hlt⟩ := hzz i z h1
    exact ((hrd i z L h1 h2).keep M2 fun _ _ => id).keep M3 fun b hb => hFnot b (hlt b hb.2)
  have M123 : Mod (fun _ => False) w w3 := Mod.fresh (M1.trans M2 (fun _ _ h => h) fun _ _ h => h) M3 fun x hx hb => hFnot x (Nat.lt_of_lt_of_le hx M1.size) hb
  have hxl : xs.length = lens Ls zs.length := by rw [r3.length_eq, cat_length, hrem _ (Nat.le_refl _)]
  have hTs : ∀ m, m ≤ zs.length → lens Ts m = lens Ls m := by
    intro m
    induction m with
    | zero => intro _; rfl
    | succ m ih =>
      intro hm
      have : Ts[m]?.getD [] = TQ Ls m := by rw [hTi m (by omega)]; rfl
      rw [lens, ih (by omega), this, TQ_eq (by omega), nameT_length, sortT_length, lens]
  have hmemx : ∀ x ∈ xs, ∃ i, i < zs.length ∧ x ∈ TQ Ls i := fun x hx => by
    obtain ⟨i, hi, hm⟩ := mem_cat.1 (r3.mem_iff.1 hx)
    rw [hLq i hi] at hm; exact ⟨i, hi, hm⟩
  refine join1 (a := .bool) (fun b w' => b = true ∧ Mod (fun _ => False) w w') (fun k hk => ?_) fun b w' ⟨hbt, hM⟩ => by rw [hbt]; exact hK w' hM
  refine ifK_t rfl (ifK_t rfl ?_)
  refine stable_ok hout hz3 hTl hrd3 (by rw [hTl, hTs _ (Nat.le_refl _)]; exact hxl) (by have := hlens _ (Nat.le_refl zs.length); omega) (by omega) r2 ?_ ?_ ?_ fun w4 M4 => ifK_t rfl (head_ok fun w5 M5 => hk _ _ ⟨rfl, (M123.trans M4 (fun _ _ h => h) fun _ _ h => h).trans M5 (fun _ _ h => h) fun _ _ h => h⟩)
  · intro x hx
    obtain ⟨i, hi, hm⟩ := hmemx x hx
    have h1 := TQ_names (by omega) hm
    have h2 := lens_mono Ls (i := i + 1) (j := zs.length) (by omega)
    omega
  · have hc : (cat (mkF zs Ts fbs w1.heap.size).L zs.length).Pairwise fun x y => x.2 < y.2 := cat_rise (n := zs.length) (fun i hi => by rw [hLq i hi, TQ_eq (by omega)]; exact nameT_rise _ _) (fun i j hij hj x hx y hy => hsorted.rise i j hij hj x hx y hy) _ (Nat.le_refl _)
    have hnd : ((cat (mkF zs Ts fbs w1.heap.size).L zs.length).map (·.2)).Nodup := by
      unfold List.Nodup
      rw [List.pairwise_map]
      exact hc.imp fun h e => by rw [e] at h; exact Int.lt_irrefl _ h
    exact (r3.map (·.2)).nodup_iff.2 hnd
  · intro L hL y hyL
    obtain ⟨i, hi⟩ := List.mem_iff_getElem?.1 hL
    obtain ⟨hil, rfl⟩ := hTe i L hi
    refine r3.mem_iff.2 (mem_cat.2 ⟨i, hil, ?_⟩)
    rw [hLq i hil]; exact hyL
end Go.Proofs.Ytfhojgammfkabaa
