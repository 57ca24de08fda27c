/- How often sources have been asked: told plainly. -/
import Derived.Test.YtfhojgammfkabaaT3
namespace Go.Proofs.Ytfhojgammfkabaa
open Go.Vw

theorem runF_sub {n : Nat} {en : Nat → Int} : ∀ (k : Nat) (Q : Nat → List Thing) (i : Nat), ((runF n en k Q).2.2 i).length ≤ (Q i).length
  | 0, Q, i => Nat.le_refl _
  | k + 1, Q, i => by
    cases hs : scan Q n with
    | none => rw [runF_none hs]; exact Nat.le_refl _
    | some b =>
      obtain ⟨hb, hne, _⟩ := scan_some hs
      obtain ⟨x, r, hq⟩ : ∃ x r, Q b = x :: r := by
        cases hqb : Q b with
        | nil => exact absurd hqb hne
        | cons x r => exact ⟨x, r, rfl⟩
      rw [runF_some hs hq]
      have hu : ∀ r', r'.length ≤ r.length → (upd Q b r' i).length ≤ (Q i).length := fun r' hr' => by
        by_cases e : i = b
        · subst e; rw [upd_same, hq]; simp; omega
        · rw [upd_ne _ _ e]; exact Nat.le_refl _
      unfold contF
      cases r with
      | nil =>
        simp only
        split
        · exact hu [] (Nat.le_refl _)
        · exact Nat.le_trans (runF_sub k _ i) (hu [] (Nat.le_refl _))
      | cons z r' =>
        simp only
        split
        · exact hu _ (Nat.le_refl _)
        · exact Nat.le_trans (runF_sub k _ i) (hu _ (Nat.le_refl _))
/-- how often a source has been asked, by what it has yet to tell -/
def AccR (L : List Thing) : Option (List Thing) → Nat
  | some r => L.length - r.length
  | none => L.length + 1
theorem end_acc {n : Nat} {en : Nat → Int} {L : Nat → List Thing} {R : Nat → Option (List Thing)} (h : endM n en L R) : ∀ i, i < n → AccR (L i) (R i) = asksF n en L i := by
  intro i hi
  unfold endM at h
  unfold asksF
  cases hf : firstE L en n 0 with
  | some j =>
    rw [hf] at h
    simp only at h ⊢
    by_cases hij : i ≤ j
    · rw [if_pos hij]
      rcases h.1 i hij with ⟨h1, h2⟩ | ⟨y, r, h1, h2⟩
      · rw [h1, h2]; rfl
      · rw [h1, h2]; simp [AccR]
    · rw [if_neg hij, h.2 i (by omega) hi]
      simp [AccR]
  | none =>
    rw [hf] at h
    simp only at h ⊢
    have hsub := runF_sub (n := n) (en := en) (remQ L n) L i
    rcases h i hi with ⟨h1, h2⟩ | ⟨y, r, h1, h2⟩
    · rw [h1, h2]; simp [AccR]
    · rw [h1, h2]
      rw [h1] at hsub
      simp only [AccR, List.length_cons] at hsub ⊢
      omega
theorem feed_acc {l : List Thing} {s : FS} {R : Option (List Thing)} (h : FeedR l s R) : s.asks = (AccR l R : Nat) ∧ s.bad = false := by
  cases R with
  | some r =>
    obtain ⟨h1, h2, h3, h4, h5⟩ := h
    refine ⟨?_, h5⟩
    rw [h4, h2]
    simp only [AccR, List.length_drop]
    omega
  | none =>
    obtain ⟨h1, h2, h3, h4⟩ := h
    refine ⟨?_, h4⟩
    rw [h3]
    simp [AccR]
section
variable {σ : Type} {S : Srcs σ} {en : Nat → Int} {St : σ → (Nat → Option (List Thing)) → Prop} {tot : Nat} {Fin : (Nat → Option (List Thing)) → Prop} {err : Int}
theorem tell_mid {p : PM} {t : σ} {c : Nat} {rest : List Thing} (h : Tell S en St tot Fin p t c rest err) (hov : p.1.ov = false) (hc : 0 < c) : ∃ Q R, St t R ∧ (∀ i, i < S.n → RQ Q R i) ∧ remQ Q S.n + c = tot + 1 := by
  cases h with
  | start => omega
  | mid hbg hov he hn htop hl hv hrel hg hqw hk hc hF =>
    obtain ⟨R, h1, h2⟩ := hrel.rq (m := 0)
    exact ⟨_, R, h1, h2, hc⟩
  | over h => rw [hov] at h; cases h
theorem tell_over {p : PM} {t : σ} {c : Nat} {rest : List Thing} (h : Tell S en St tot Fin p t c rest err) (hov : p.1.ov = true) : p.1.e = err ∧ rest = [] ∧ ∃ R, St t R ∧ Fin R := by
  cases h with
  | start _ h => rw [hov] at h; cases h
  | mid _ h => rw [hov] at h; cases h
  | over _ _ h3 h4 => exact ⟨h3, rfl, h4⟩
/-- the error of a merge that is not over -/
theorem tell_e {p : PM} {t : σ} {c : Nat} {rest : List Thing} (h : Tell S en St tot Fin p t c rest err) (hov : p.1.ov = false) : p.1.e = 0 := by
  cases h with
  | start _ _ h => exact h
  | mid _ _ h => exact h
  | over h => rw [hov] at h; cases h
end
theorem sum_acc {L Q : Nat → List Thing} {R : Nat → Option (List Thing)} : ∀ n, (∀ i, i < n → ∀ r, R i = some r → r.length ≤ (L i).length) → (∀ i, i < n → RQ Q R i) → sumTo (fun i => AccR (L i) (R i)) n + remQ Q n = remQ L n + n
  | 0, _, _ => rfl
  | n + 1, hR, h => by
    have ih := sum_acc n (fun i hi => hR i (by omega)) (fun i hi => h i (by omega))
    show sumTo (fun i => AccR (L i) (R i)) n + AccR (L n) (R n) + (remQ Q n + (Q n).length) = remQ L n + (L n).length + (n + 1)
    generalize sumTo (fun i => AccR (L i) (R i)) n = X at ih ⊢
    rcases h n (by omega) with ⟨h1, h3⟩ | ⟨y, r, h1, h3⟩
    · rw [h1, h3]; simp only [AccR, List.length_nil]; omega
    · have hr := hR n (by omega) r h3
      rw [h1, h3]
      simp only [AccR, List.length_cons]
      omega
theorem sumTo_zero : ∀ n, sumTo (fun _ => 0) n = 0
  | 0 => rfl
  | n + 1 => by rw [sumTo, sumTo_zero n]
end Go.Proofs.Ytfhojgammfkabaa
