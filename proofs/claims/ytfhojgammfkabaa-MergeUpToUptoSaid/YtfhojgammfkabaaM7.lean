/- Who is told next is ahead of all. -/
import Derived.Test.YtfhojgammfkabaaM4
import Derived.Test.YtfhojgammfkabaaM6
import Derived.Test.YtfhojgammfkabaaM5
namespace Go.Proofs.Ytfhojgammfkabaa
open Go.Vw

section
variable {n : Nat} {A A' : Nat → Nat → Bool} {l : Nat → Option Nat}
theorem Ch.down {p w : Nat} (h : Ch n A l p w) : ∀ r, Sub p r → Sub r (w + n) → Ch n A l r w := by
  induction h with
  | leaf h1 h2 =>
    rename_i p
    intro r h3 h4
    have := h3.le; have := h4.le
    have e : r = p := by omega
    subst e; exact .leaf h1 h2
  | left h1 h2 k1 k2 h3 h4 ih1 ih2 =>
    rename_i p c d
    intro r hs hw
    by_cases hr : r = p
    · subst hr; exact .left h1 h2 k1 k2 h3 h4
    · rcases sub_child hs hr with h | h
      · exact ih1 r h hw
      · exact absurd (h.trans hw) fun h' => sub_sib h1 k1.sub.2 h'
  | right h1 h2 k1 k2 h3 h4 ih1 ih2 =>
    rename_i p c d
    intro r hs hw
    by_cases hr : r = p
    · subst hr; exact .right h1 h2 k1 k2 h3 h4
    · rcases sub_child hs hr with h | h
      · exact absurd (h.trans hw) fun h' => sub_sib h1 h' k2.sub.2
      · exact ih2 r h hw
/-- at a node above the champion's leaf the loser is the other half's champion -/
theorem Ch.loser {q w : Nat} (hq : 2 ≤ q) (hqn : q < 2 * n) (h : Ch n A l (q / 2) w) (hs : Sub (sib q) (w + n)) : ∃ d, Ch n A l q d ∧ l (q / 2) = some d := by
  generalize ha : q / 2 = a at h
  cases h with
  | leaf h1 h2 => omega
  | left h1 h2 k1 k2 h3 h4 =>
    rename_i d
    rcases sib_cases q with ⟨e1, e2⟩ | ⟨e1, e2⟩
    · rw [e2, ha] at hs; exact (sub_sib h1 k1.sub.2 hs).elim
    · rw [e1, ha]; exact ⟨d, k2, h3⟩
  | right h1 h2 k1 k2 h3 h4 =>
    rename_i c
    rcases sib_cases q with ⟨e1, e2⟩ | ⟨e1, e2⟩
    · rw [e1, ha]; exact ⟨c, k1, h3⟩
    · rw [e2, ha] at hs; exact (sub_sib h1 hs k2.sub.2).elim
/-- the champion goes back to its leaf, with another thing -/
theorem Ch.again {w : Nat} (hw : w < n) (h : Ch n A l 1 w) (hA : ∀ i j, i ≠ w → j ≠ w → A' i j = A i j) : Inv n A' l (fun j => j ≠ w) := by
  have hcp : ∀ q, ¬ Cpl n (fun j => j ≠ w) q → Sub q (w + n) := by
    intro q hq
    by_cases hs : Sub q (w + n)
    · exact hs
    · refine absurd (fun i hi hs' => ?_) hq
      rintro rfl; exact hs hs'
  refine ⟨?_, ?_, fun hall _ => absurd rfl (hall w hw)⟩
  · intro p hp hpn h1 h2
    exact (sub_sib hp (hcp _ h1) (hcp _ h2)).elim
  · intro q hq hqn hc hns
    have hs := hcp _ hns
    have hup : Sub (q / 2) (w + n) := by have := hs.up; rwa [sib_half hq] at this
    have hch := h.down (q / 2) (sub_one (by omega)) hup
    obtain ⟨d, hd, hl⟩ := hch.loser hq hqn hs
    refine ⟨d, hd.congr (fun _ _ _ => rfl) fun i j hi hj => hA i j ?_ ?_, hl⟩
    · rintro rfl; exact sub_sib' hq hi hs
    · rintro rfl; exact sub_sib' hq hj hs
theorem some_leaf : ∀ (k q : Nat), 2 * n - q ≤ k → 1 ≤ q → q < 2 * n → ∃ i, i < n ∧ Sub q (i + n)
  | 0, q, h, _, hq => by omega
  | k + 1, q, h, h1, hq => by
    by_cases hn : n ≤ q
    · refine ⟨q - n, by omega, ?_⟩
      have : q - n + n = q := by omega
      rw [this]; exact Sub.refl _
    · obtain ⟨i, hi, hs⟩ := some_leaf k (2 * q) (by omega) (by omega) (by omega)
      refine ⟨i, hi, ?_⟩
      have := hs.up
      have e : 2 * q / 2 = q := by omega
      rwa [e] at this
theorem Inv.init (hl : ∀ p, l p = none) : Inv n A l (fun _ => False) := by
  refine ⟨fun p _ _ _ _ => hl p, fun q hq hqn hc _ => ?_, fun hall hn => (hall 0 hn).elim⟩
  obtain ⟨i, hi, hs⟩ := some_leaf (2 * n) q (by omega) (by omega) hqn
  exact (hc i hi hs).elim
theorem Inv.of {D D' : Nat → Prop} (h : Inv n A l D) (hd : ∀ j, j < n → (D j ↔ D' j)) : Inv n A l D' := by
  have hc : ∀ q, Cpl n D q ↔ Cpl n D' q := fun q => ⟨fun h i hi hs => (hd i hi).1 (h i hi hs), fun h i hi hs => (hd i hi).2 (h i hi hs)⟩
  exact ⟨fun p hp hpn h1 h2 => h.no p hp hpn (fun hx => h1 ((hc _).1 hx)) fun hx => h2 ((hc _).1 hx), fun q hq hqn h1 h2 => h.one q hq hqn ((hc _).2 h1) fun hx => h2 ((hc _).1 hx), fun hall => h.top fun i hi => (hd i hi).2 (hall i hi)⟩
end

/-! ### the merge's own tree -/
section
variable {cmp : Thing → Thing → Int} {n : Nat} {s : MS}
theorem getL_set {l : List (Option Nat)} {a c : Nat} (h : a < l.length) : getL (l.set a (some c)) = setF (getL l) a c := by
  funext q
  unfold getL setF
  rw [List.getElem?_set]
  by_cases e : q = a
  · subst e; simp [h]
  · rw [if_neg (fun h => e h.symm), if_neg e]
theorem playsL_up : ∀ (a : Nat) (l : List (Option Nat)) (i : Nat), a < l.length → getL (playsL cmp s l i a).1 = (up (aheadM cmp s) (getL l) i a).1 ∧ (playsL cmp s l i a).2 = (up (aheadM cmp s) (getL l) i a).2 := by
  intro a
  induction a using Nat.strongRecOn with
  | _ a ih =>
    intro l i ha
    rw [playsL, up]
    by_cases h0 : a = 0
    · rw [dif_pos h0, dif_pos h0]; exact ⟨rfl, rfl⟩
    · rw [dif_neg h0, dif_neg h0]
      cases hg : getL l a with
      | none => exact ⟨getL_set ha, rfl⟩
      | some o =>
        simp only
        by_cases hA : aheadM cmp s o i = true
        · rw [if_pos hA, if_pos hA]
          have := ih (a / 2) (by omega) (l.set a (some i)) o (by simp; omega)
          rw [getL_set ha] at this
          exact this
        · rw [if_neg hA, if_neg hA]
          exact ih (a / 2) (by omega) l i (by omega)
/-- the winner is the champion -/
def Top (cmp : Thing → Thing → Int) (n : Nat) (s : MS) (l : List (Option Nat)) : Prop := Ch n (aheadM cmp s) (getL l) 1 s.win
theorem playsM_inv (has : ∀ i j, aheadM cmp s i j = true → aheadM cmp s j i = false) {l : List (Option Nat)} {D : Nat → Prop} (hl : n ≤ l.length) (h : Inv n (aheadM cmp s) (getL l) D) {i : Nat} (hi : i < n) (hd : ¬ D i) :
    Inv n (aheadM cmp s) (getL (playsM cmp n s l i).2) (fun j => D j ∨ j = i) ∧ ((∀ j, j < n → (D j ∨ j = i)) → Ch n (aheadM cmp s) (getL (playsM cmp n s l i).2) 1 (playsM cmp n s l i).1.win) := by
  obtain ⟨h1, h2, h3⟩ := h.plays has hi hd
  obtain ⟨e1, e2⟩ := playsL_up (cmp := cmp) (s := s) ((i + n) / 2) l i (by omega)
  rw [← e1] at h1 h2
  rw [← e2] at h2 h3
  unfold playsM
  generalize hp : playsL cmp s l i ((i + n) / 2) = p at h1 h2 h3
  obtain ⟨l', o⟩ := p
  cases o with
  | some w => exact ⟨h1, fun _ => h2 w rfl⟩
  | none => exact ⟨h1, fun hall => absurd hall (h3 rfl)⟩
theorem aheadM_congr {s' : MS} (h1 : s'.hd = s.hd) (h2 : s'.sm = s.sm) : aheadM cmp s' = aheadM cmp s := by
  funext i j; unfold aheadM; rw [h1, h2]
theorem playAllM_inv (has : ∀ (s : MS) i j, aheadM cmp s i j = true → aheadM cmp s j i = false) : ∀ (k : Nat) (s : MS) (l : List (Option Nat)) (i : Nat), i + k = n → 0 < k → n ≤ l.length → ValidL n l → Inv n (aheadM cmp s) (getL l) (fun j => j < i) → Top cmp n (playAllM cmp n k s l i).1 (playAllM cmp n k s l i).2
  | 0, s, l, i, _, h, _, _, _ => by omega
  | k + 1, s, l, i, hk, _, hl, hv, h => by
    obtain ⟨h1, h2⟩ := playsM_inv (has s) hl h (i := i) (by omega) (by omega)
    obtain ⟨a1, a2, a3, a4, a5⟩ := playsM_keep (cmp := cmp) (n := n) (s := s) (l := l) (i := i)
    obtain ⟨b1, b2⟩ := playsM_len (cmp := cmp) (s := s) (l := l) (i := i) (n := n) (by omega) hv hl
    rw [playAllM]
    cases k with
    | zero =>
      rw [playAllM]
      unfold Top
      rw [aheadM_congr a4 a5]
      exact h2 fun j hj => by omega
    | succ k =>
      refine playAllM_inv has (k + 1) _ _ (i + 1) (by omega) (by omega) (by rw [b1]; exact hl) b2 ?_
      rw [aheadM_congr a4 a5]
      exact h1.of fun j hj => by omega
end
/-! ### what is told -/
/-- nothing comes ahead of this one -/
def Best (cmp : Thing → Thing → Int) (n : Nat) (s : MS) : Prop := s.win < n ∧ ∀ i, i < n → aheadM cmp s i s.win = false
theorem aheadT_asym (s : MS) (i j : Nat) (h : aheadM cmpT s i j = true) : aheadM cmpT s j i = false := by
  unfold aheadM cmpT at *
  cases hi : getB s.sm i <;> cases hj : getB s.sm j <;> simp_all
  grind
theorem aheadT_irr (s : MS) (i : Nat) : aheadM cmpT s i i = false := by
  unfold aheadM cmpT
  cases hi : getB s.sm i <;> simp_all
theorem aheadT_trans (s : MS) (i j k : Nat) (h1 : aheadM cmpT s i j = false) (h2 : aheadM cmpT s j k = false) : aheadM cmpT s i k = false := by
  unfold aheadM cmpT at *
  cases hi : getB s.sm i <;> cases hj : getB s.sm j <;> cases hk : getB s.sm k <;> simp_all
  grind
theorem Top.best {n : Nat} {s : MS} {l : List (Option Nat)} (hn : 0 < n) (h : Top cmpT n s l) : Best cmpT n s :=
  ⟨h.sub.1, fun i hi => Ch.best (aheadT_irr s) (aheadT_trans s) h i hi (sub_one (by omega))⟩
end Go.Proofs.Ytfhojgammfkabaa
