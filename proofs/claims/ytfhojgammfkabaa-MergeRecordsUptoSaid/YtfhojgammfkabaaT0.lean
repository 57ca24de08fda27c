/- Loops with a ghost; lists of numbers in a block; the reference's answer, told plainly. -/
import Derived.Test.YtfhojgammfkabaaQ6
import Derived.Test.YtfhojgammfkabaaSTells
namespace Go.Proofs.Ytfhojgammfkabaa
open Go.Vw

theorem exists_min {γ : Type} (μ : γ → Nat) {p : γ → Prop} (h : ∃ g, p g) : ∃ g, p g ∧ ∀ g', p g' → μ g ≤ μ g' := by
  obtain ⟨g, hg⟩ := h
  generalize hn : μ g = n
  induction n using Nat.strongRecOn generalizing g with
  | _ n ih =>
    by_cases hs : ∃ g', p g' ∧ μ g' < n
    · obtain ⟨g', h1, h2⟩ := hs
      exact ih _ h2 g' h1 rfl
    · refine ⟨g, hg, fun g' h' => ?_⟩
      rw [hn]
      exact Nat.not_lt.1 fun hlt => hs ⟨g', h', hlt⟩
/-- a loop without variables, with a ghost that runs out -/
theorem loop0G {γ : Type} {B : World → (World → Prop) → Prop} {w : World} (I : γ → World → Prop) (μ : γ → Nat) (g0 : γ) (h0 : I g0 w) (hs : ∀ g w (K : World → Prop), I g w → (∀ g' w', I g' w' → μ g' < μ g → K w') → B w K) : loopL [] B [] w := by
  classical
  let m : World → Nat := fun w => if h : ∃ g, I g w then μ (exists_min μ h).choose else 0
  have hm : ∀ g w, I g w → m w ≤ μ g := fun g w hg => by
    have h : ∃ g, I g w := ⟨g, hg⟩
    show (if h : ∃ g, I g w then μ (exists_min μ h).choose else 0) ≤ μ g
    rw [dif_pos h]
    exact (exists_min μ h).choose_spec.2 g hg
  refine loop0 (fun w => ∃ g, I g w) m ⟨g0, h0⟩ fun w h => ?_
  have hmw : m w = μ (exists_min μ h).choose := by
    show (if h : ∃ g, I g w then μ (exists_min μ h).choose else 0) = _
    rw [dif_pos h]
  refine hs _ w _ (exists_min μ h).choose_spec.1 fun g' w' h' hlt => ⟨⟨g', h'⟩, ?_⟩
  rw [hmw]
  exact Nat.lt_of_le_of_lt (hm g' w' h') hlt
/-- numbers in a block -/
def gC (n : Nat) (g : Nat → Nat) : List Value := (List.range n).map fun i => Value.int .i64 (g i : Nat)
theorem gC_length (n : Nat) (g : Nat → Nat) : (gC n g).length = n := by simp [gC]
theorem gC_get {n : Nat} {g : Nat → Nat} {i : Nat} (h : i < n) : (gC n g)[i]? = some (.int .i64 (g i : Nat)) := by simp [gC, h]
theorem gC_set {n : Nat} {g : Nat → Nat} {i k : Nat} (h : i < n) : (gC n g).set i (.int .i64 (k : Nat)) = gC n (upd g i k) := by
  apply List.ext_getElem?
  intro j
  rw [List.getElem?_set]
  by_cases hj : j < n
  · by_cases e : i = j
    · subst e
      rw [if_pos rfl, if_pos (by rw [gC_length]; exact h), gC_get h, upd_same]
    · rw [if_neg e, gC_get hj, gC_get hj, upd_ne _ _ (fun h => e h.symm)]
  · rw [List.getElem?_eq_none (by rw [gC_length]; omega)]
    by_cases e : i = j
    · omega
    · rw [if_neg e, List.getElem?_eq_none (by rw [gC_length]; omega)]
theorem gC_congr {n : Nat} {g g' : Nat → Nat} (h : ∀ i, i < n → g i = g' i) : gC n g = gC n g' := by
  apply List.map_congr_left
  intro i hi
  rw [h i (by simpa using hi)]
theorem gC_cells (n : Nat) (g : Nat → Nat) : EI.cells ((List.range n).map fun i => ((g i : Nat) : Int)) = gC n g := by
  unfold gC
  generalize List.range n = l
  induction l with
  | nil => rfl
  | cons x l ih => simp only [List.map_cons, Enc.cells, ih]; rfl
theorem gC_zero (n : Nat) : EI.cells (List.replicate n 0) = gC n fun _ => 0 := by
  rw [← gC_cells]
  congr 1
  apply List.ext_getElem?
  intro i
  by_cases h : i < n <;> simp [h]
/-- a number of the list is read -/
theorem ixg {w0 w : World} {D : Nat → Prop} {m : List (Nat × List Value)} (hA : At w0 D m w) (j : Nat) {b n : Nat} {g : Nat → Nat} (hj : m[j]? = some (b, gC n g)) {i : Nat} (hi : i < n) {K : Int → Prop} (hK : K (g i : Nat)) :
    Go.Vw.ix ⟨some (b, 0), n, n⟩ 1 (i : Int) fun b' o => Go.Vw.ld w (.int .i64) b' o K :=
  ix_some rfl (by omega) (show (i : Int) < (n : Nat) by omega) (ld_cell (k := .int .i64) ((g i : Nat) : Int) (by rw [(hA.blk hj).cell, Nat.zero_add, Nat.mul_one, Int.toNat_natCast]; exact gC_get hi) hK)
theorem ixgD {w0 w : World} {D E : Nat → Prop} {m : List (Nat × List Value)} (hA : At w0 D m w) (j : Nat) {b n : Nat} {g : Nat → Nat} (hj : m[j]? = some (b, gC n g)) {i : Nat} (hi : i < n) (hE : ¬ E b) {K : Int → Prop} (hK : K (g i : Nat)) :
    Go.Vw.ix ⟨some (b, 0), n, n⟩ 1 (i : Int) fun b' o => Go.Vw.ldD E w (.int .i64) b' o K :=
  ix_some rfl (by omega) (show (i : Int) < (n : Nat) by omega) (ldD_cell (k := .int .i64) ((g i : Nat) : Int) hE (by rw [(hA.blk hj).cell, Nat.zero_add, Nat.mul_one, Int.toNat_natCast]; exact gC_get hi) hK)
/-- and written -/
theorem ixgS {w0 w : World} {D : Nat → Prop} {m : List (Nat × List Value)} (hA : At w0 D m w) (j : Nat) {b n : Nat} {g : Nat → Nat} (hj : m[j]? = some (b, gC n g)) {i : Nat} (hi : i < n) {x : Int} {k : Nat} (hx : x = (k : Nat)) {K : World → Prop}
    (hK : ∀ w', At w0 D (m.set j (b, gC n (upd g i k))) w' → Mod (fun x => x = b) w w' → K w') :
    Go.Vw.ix ⟨some (b, 0), n, n⟩ 1 (i : Int) fun b' o => Go.Vw.st w b' o [.int .i64 x] K := by
  subst hx
  refine ix_some rfl (by omega) (show (i : Int) < (n : Nat) by omega) (hA.st j hj (by rw [gC_length]; simp; omega) fun w' hA' hM => hK w' ?_ hM)
  have h1 : spl (gC n g) (0 + (i : Int).toNat * 1) [Value.int .i64 (k : Nat)] = gC n (upd g i k) := by
    rw [← gC_set hi]
    simp [spl]
  have h2 : List.map LV.toV [.int .i64 ((k : Nat) : Int)] = [Value.int .i64 ((k : Nat) : Int)] := rfl
  rw [h2, h1] at hA'
  exact hA'
/-- how often each source has been asked when all is told -/
def asksF (n : Nat) (en : Nat → Int) (Q : Nat → List Thing) (i : Nat) : Nat :=
  match firstE Q en n 0 with
  | some j => if i ≤ j then 1 else 0
  | none => (Q i).length - ((runF n en (remQ Q n) Q).2.2 i).length + 1
/-- what 'first' means -/
theorem firstE_spec {Q : Nat → List Thing} {en : Nat → Int} : ∀ (k i : Nat), (firstE Q en k i = none → ∀ j, i ≤ j → j < i + k → ¬ (Q j = [] ∧ en j ≠ 0)) ∧ (∀ j, firstE Q en k i = some j → i ≤ j ∧ j < i + k ∧ Q j = [] ∧ en j ≠ 0 ∧ ∀ a, i ≤ a → a < j → ¬ (Q a = [] ∧ en a ≠ 0))
  | 0, i => ⟨fun _ j h1 h2 => by omega, fun j h => by cases h⟩
  | k + 1, i => by
    obtain ⟨h1, h2⟩ := firstE_spec (Q := Q) (en := en) k (i + 1)
    rw [firstE]
    by_cases h : Q i = [] ∧ en i ≠ 0
    · rw [if_pos h]
      refine ⟨(fun h => by cases h), fun j hj => ?_⟩
      cases hj
      exact ⟨Nat.le_refl _, by omega, h.1, h.2, fun a h1 h2 => by omega⟩
    · rw [if_neg h]
      refine ⟨fun hn j hj1 hj2 => ?_, fun j hj => ?_⟩
      · by_cases e : j = i
        · subst e; exact h
        · exact h1 hn j (by omega) (by omega)
      · obtain ⟨a1, a2, a3, a4, a5⟩ := h2 j hj
        refine ⟨by omega, by omega, a3, a4, fun a b1 b2 => ?_⟩
        by_cases e : a = i
        · subst e; exact h
        · exact a5 a (by omega) b2
theorem firstE_at {Q : Nat → List Thing} {en : Nat → Int} {n j : Nat} (hj : j < n) (h : Q j = [] ∧ en j ≠ 0) (hb : ∀ a, a < j → ¬ (Q a = [] ∧ en a ≠ 0)) : firstE Q en n 0 = some j := by
  obtain ⟨h1, h2⟩ := firstE_spec (Q := Q) (en := en) n 0
  cases hf : firstE Q en n 0 with
  | none => exact absurd h (h1 hf j (Nat.zero_le _) (by omega))
  | some i =>
    obtain ⟨_, a2, a3, a4, a5⟩ := h2 i hf
    by_cases e : i = j
    · rw [e]
    · rcases Nat.lt_or_gt_of_ne e with h' | h'
      · exact absurd ⟨a3, a4⟩ (hb i h')
      · exact absurd h (a5 j (Nat.zero_le _) h')
theorem firstE_no {Q : Nat → List Thing} {en : Nat → Int} {n : Nat} (hb : ∀ a, a < n → ¬ (Q a = [] ∧ en a ≠ 0)) : firstE Q en n 0 = none := by
  cases hf : firstE Q en n 0 with
  | none => rfl
  | some i =>
    obtain ⟨_, a2, a3, a4, a5⟩ := (firstE_spec (Q := Q) (en := en) n 0).2 i hf
    exact absurd ⟨a3, a4⟩ (hb i (by omega))
end Go.Proofs.Ytfhojgammfkabaa
