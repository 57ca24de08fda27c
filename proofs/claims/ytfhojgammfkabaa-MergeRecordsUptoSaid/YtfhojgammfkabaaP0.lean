/- Of sorted sources the merge is all of them, sorted: told plainly. -/
import Derived.Test.YtfhojgammfkabaaMC
namespace Go.Proofs.Ytfhojgammfkabaa

/-- by key, and where that is alike by name -/
def ltT (x y : Thing) : Prop := x.1 < y.1 ∨ (x.1 = y.1 ∧ x.2 < y.2)
theorem ltT.trans {x y z : Thing} (h : ltT x y) (k : ltT y z) : ltT x z := by unfold ltT at *; omega
/-- sources one behind the other -/
def cat (Q : Nat → List Thing) : Nat → List Thing
  | 0 => []
  | i + 1 => cat Q i ++ Q i
theorem mem_cat {Q : Nat → List Thing} {x : Thing} : ∀ {n : Nat}, x ∈ cat Q n ↔ ∃ i, i < n ∧ x ∈ Q i
  | 0 => by simp [cat]
  | n + 1 => by
    rw [cat, List.mem_append, mem_cat]
    constructor
    · rintro (⟨i, hi, h⟩ | h)
      · exact ⟨i, by omega, h⟩
      · exact ⟨n, by omega, h⟩
    · rintro ⟨i, hi, h⟩
      by_cases hin : i = n
      · subst hin; exact .inr h
      · exact .inl ⟨i, by omega, h⟩
theorem cat_length {Q : Nat → List Thing} : ∀ n, (cat Q n).length = remQ Q n
  | 0 => rfl
  | n + 1 => by rw [cat, List.length_append, cat_length n, remQ]
theorem cat_upd {Q : Nat → List Thing} {b : Nat} {x : Thing} {r : List Thing} (hq : Q b = x :: r) : ∀ n, (b < n → (cat Q n).Perm (x :: cat (upd Q b r) n)) ∧ (n ≤ b → cat (upd Q b r) n = cat Q n)
  | 0 => ⟨fun h => by omega, fun _ => rfl⟩
  | n + 1 => by
    obtain ⟨h1, h2⟩ := cat_upd hq n
    refine ⟨fun hb => ?_, fun hb => ?_⟩
    · rw [cat, cat]
      by_cases hbn : b < n
      · rw [upd_ne _ _ (by omega : n ≠ b)]
        exact (h1 hbn).append_right (Q n)
      · have e : n = b := by omega
        subst e
        rw [h2 (Nat.le_refl _), upd_same, hq]
        exact List.perm_middle
    · rw [cat, cat, h2 (by omega), upd_ne _ _ (by omega : n ≠ b)]
/-- sorted sources, the names rising from source to source -/
structure Sorted (n : Nat) (Q : Nat → List Thing) : Prop where
  each : ∀ i, i < n → (Q i).Pairwise ltT
  rise : ∀ i j, i < j → j < n → ∀ x ∈ Q i, ∀ y ∈ Q j, x.2 < y.2
theorem Sorted.upd {n : Nat} {Q : Nat → List Thing} (h : Sorted n Q) {b : Nat} {x : Thing} {r : List Thing} (hq : Q b = x :: r) : Sorted n (upd Q b r) := by
  have hsub : ∀ i y, y ∈ Go.Proofs.Ytfhojgammfkabaa.upd Q b r i → y ∈ Q i := fun i y hy => by
    by_cases hib : i = b
    · subst hib; rw [upd_same] at hy; rw [hq]; exact List.mem_cons_of_mem _ hy
    · rw [upd_ne _ _ hib] at hy; exact hy
  refine ⟨fun i hi => ?_, fun i j hij hj x hx y hy => h.rise i j hij hj x (hsub i x hx) y (hsub j y hy)⟩
  by_cases hib : i = b
  · subst hib; rw [upd_same]
    have := h.each i hi
    rw [hq] at this; exact (List.pairwise_cons.1 this).2
  · rw [upd_ne _ _ hib]; exact h.each i hi
/-- the one that is chosen is ahead of all others -/
theorem Sorted.least {n : Nat} {Q : Nat → List Thing} (h : Sorted n Q) {b : Nat} {x : Thing} {r : List Thing} (hs : scan Q n = some b) (hq : Q b = x :: r) : ∀ y ∈ cat (Go.Proofs.Ytfhojgammfkabaa.upd Q b r) n, ltT x y := by
  obtain ⟨hb, hne, hl⟩ := scan_some hs
  intro y hy
  obtain ⟨i, hi, hy⟩ := mem_cat.1 hy
  by_cases hib : i = b
  · subst hib
    rw [upd_same] at hy
    have := h.each i hi
    rw [hq] at this
    exact (List.pairwise_cons.1 this).1 y hy
  · rw [upd_ne _ _ hib] at hy
    cases hqi : Q i with
    | nil => rw [hqi] at hy; cases hy
    | cons z t =>
      obtain ⟨l1, l2⟩ := hl i hi (by rw [hqi]; simp)
      have hz : z.1 ≤ y.1 := by
        rw [hqi] at hy
        rcases List.mem_cons.1 hy with e | hy
        · rw [e]; exact Int.le_refl _
        · have := h.each i hi
          rw [hqi] at this
          have := (List.pairwise_cons.1 this).1 y hy
          unfold ltT at this; omega
      have hk1 : hdK (Q b) = x.1 := by rw [hq]; rfl
      have hk2 : hdK (Q i) = z.1 := by rw [hqi]; rfl
      rw [hk1, hk2] at l1 l2
      unfold ltT
      by_cases hlt : x.1 < y.1
      · exact .inl hlt
      · right
        have hbi : b ≤ i := l2 (by omega)
        refine ⟨by omega, h.rise b i (by omega) hi x (by rw [hq]; simp) y hy⟩
theorem runF_sorted {n : Nat} : ∀ (k : Nat) (Q : Nat → List Thing), remQ Q n ≤ k → Sorted n Q → (runF n (fun _ => 0) k Q).2.1 = 0 ∧ (runF n (fun _ => 0) k Q).1.Pairwise ltT ∧ (runF n (fun _ => 0) k Q).1.Perm (cat Q n)
  | 0, Q, hk, _ => by
    have : cat Q n = [] := List.eq_nil_of_length_eq_zero (by rw [cat_length]; omega)
    rw [this]; exact ⟨rfl, List.Pairwise.nil, .nil⟩
  | k + 1, Q, hk, h => by
    cases hs : scan Q n with
    | none =>
      rw [runF_none hs]
      have hn := scan_none.1 hs
      have : cat Q n = [] := by
        cases hc : cat Q n with
        | nil => rfl
        | cons x l =>
          obtain ⟨i, hi, hx⟩ := mem_cat.1 (by rw [hc]; exact List.mem_cons_self : x ∈ cat Q n)
          rw [hn i hi] at hx; cases hx
      rw [this]; exact ⟨rfl, List.Pairwise.nil, .nil⟩
    | some b =>
      obtain ⟨hb, hne, hl⟩ := scan_some hs
      obtain ⟨x, r, hq⟩ : ∃ x r, Q b = x :: r := by
        cases hqb : Q b with
        | nil => exact absurd hqb hne
        | cons x r => exact ⟨x, r, rfl⟩
      rw [runF_some hs hq]
      have hrem := (remQ_upd hq n).1 hb
      obtain ⟨i1, i2, i3⟩ := runF_sorted k (upd Q b r) (by omega) (h.upd hq)
      have hcf : contF n (fun _ => 0) k Q b x r = runF n (fun _ => 0) k (upd Q b r) := by
        unfold contF
        cases r with
        | nil => simp
        | cons y r' =>
          have := h.each b hb
          rw [hq] at this
          have := (List.pairwise_cons.1 this).1 y (by simp)
          have hnl : ¬ y.1 < x.1 := by unfold ltT at this; omega
          simp [hnl]
      rw [hcf]
      refine ⟨i1, List.pairwise_cons.2 ⟨fun y hy => h.least hs hq y (i3.mem_iff.1 hy), i2⟩, (List.Perm.cons x i3).trans ((cat_upd hq n).1 hb).symm⟩
theorem runM_sorted {n : Nat} {Q : Nat → List Thing} (h : Sorted n Q) : (runM n (fun _ => 0) Q).2 = 0 ∧ (runM n (fun _ => 0) Q).1.Pairwise ltT ∧ (runM n (fun _ => 0) Q).1.Perm (cat Q n) := by
  have hf : ∀ k i, firstE Q (fun _ => 0) k i = none := by
    intro k
    induction k with
    | zero => intro i; rfl
    | succ k ih => intro i; rw [firstE, if_neg (by simp)]; exact ih _
  unfold runM
  rw [hf]
  exact runF_sorted _ Q (Nat.le_refl _) h
end Go.Proofs.Ytfhojgammfkabaa
