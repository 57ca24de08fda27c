/- One source breaks off with an error: the merge tells a first part of what it told: told plainly. -/
import Derived.Test.YtfhojgammfkabaaP0
namespace Go.Proofs.Ytfhojgammfkabaa

theorem contF_sorted {n : Nat} {Q : Nat → List Thing} (h : Sorted n Q) {b : Nat} {x : Thing} {r : List Thing} (hb : b < n) (hq : Q b = x :: r) (k : Nat) : contF n (fun _ => 0) k Q b x r = runF n (fun _ => 0) k (upd Q b r) := by
  unfold contF
  cases r with
  | nil => simp
  | cons y r' =>
    have := h.each b hb
    rw [hq] at this
    have := (List.pairwise_cons.1 this).1 y (by simp)
    have hnl : ¬ y.1 < x.1 := by unfold ltT at this; omega
    simp [hnl]
theorem contF_en {n : Nat} {en en' : Nat → Int} {k : Nat} {Q : Nat → List Thing} {b : Nat} {x : Thing} {r : List Thing} (he : en b = en' b) (h : ∀ Q', runF n en k Q' = runF n en' k Q') : contF n en k Q b x r = contF n en' k Q b x r := by
  unfold contF
  cases r with
  | nil => simp only [he, h]
  | cons y r' => simp only [h]
theorem scan_congr {Q B : Nat → List Thing} : ∀ {n : Nat}, (∀ i, i < n → (Q i = [] ↔ B i = []) ∧ hdK (Q i) = hdK (B i)) → scan Q n = scan B n
  | 0, _ => rfl
  | n + 1, h => by
    have ih := scan_congr (Q := Q) (B := B) (n := n) fun i hi => h i (by omega)
    obtain ⟨h1, h2⟩ := h n (by omega)
    rw [scan, scan, ih]
    cases hs : scan B n with
    | none => simp only [h1]
    | some b =>
      have hb := (scan_some hs).1
      obtain ⟨_, h4⟩ := h b (by omega)
      simp only [ne_eq, h1, h2, h4]
/-- the source w breaks off behind its thing number m -/
def brk (Q : Nat → List Thing) (w m : Nat) : Nat → List Thing := upd Q w ((Q w).take m)
def enW (w : Nat) : Nat → Int := upd (fun _ => 0) w 77
theorem brk_upd {Q : Nat → List Thing} {w m b : Nat} {r : List Thing} (h : b ≠ w) : upd (brk Q w m) b r = brk (upd Q b r) w m := by
  funext i
  unfold brk upd
  by_cases h1 : i = b
  · subst h1; simp [h]
  · by_cases h2 : i = w
    · subst h2; simp [h1, h.symm]
    · simp [h1, h2]
theorem brk_step {Q : Nat → List Thing} {w m : Nat} {r : List Thing} : upd (brk Q w (m + 1)) w (r.take m) = brk (upd Q w r) w m := by
  funext i
  unfold brk upd
  by_cases h2 : i = w
  · subst h2; simp
  · simp [h2]
theorem runF_brk {n w : Nat} (hw : w < n) : ∀ (k2 k1 : Nat) (Q : Nat → List Thing) (m : Nat), 0 < m → m ≤ (Q w).length → Sorted n Q → remQ Q n ≤ k1 → remQ (brk Q w m) n ≤ k2 →
    (runF n (enW w) k2 (brk Q w m)).2.1 = 77 ∧ ∃ out tail, (runF n (enW w) k2 (brk Q w m)).1 = out ∧ (runF n (fun _ => 0) k1 Q).1 = out ++ tail ∧ 0 < out.length ∧ out[out.length - 1]? = (Q w)[m - 1]?
  | 0, k1, Q, m, hm, hl, hS, h1, h2 => by
    have := remQ_pos (Q := brk Q w m) (b := w) (by
      unfold brk; rw [upd_same]
      intro e
      have := congrArg List.length e
      rw [List.length_take, List.length_nil] at this; omega) n hw
    omega
  | k2 + 1, k1, Q, m, hm, hl, hS, h1, h2 => by
    obtain ⟨m, rfl⟩ : ∃ m', m = m' + 1 := ⟨m - 1, by omega⟩
    obtain ⟨x0, r0, hq0⟩ : ∃ x r, Q w = x :: r := by
      cases h : Q w with
      | nil => rw [h] at hl; simp at hl
      | cons x r => exact ⟨x, r, rfl⟩
    have hcong : scan Q n = scan (brk Q w (m + 1)) n := scan_congr fun i hi => by
      unfold brk
      by_cases hiw : i = w
      · subst hiw; rw [upd_same, hq0]; simp [hdK]
      · rw [upd_ne _ _ hiw]; exact ⟨Iff.rfl, rfl⟩
    have hpos := remQ_pos (Q := Q) (b := w) (by rw [hq0]; simp) n hw
    obtain ⟨k1, rfl⟩ : ∃ k', k1 = k' + 1 := ⟨k1 - 1, by omega⟩
    cases hs : scan Q n with
    | none => have := scan_none.1 hs w hw; rw [hq0] at this; cases this
    | some b =>
      obtain ⟨hb, hne, hl'⟩ := scan_some hs
      obtain ⟨x, r, hq⟩ : ∃ x r, Q b = x :: r := by
        cases hqb : Q b with
        | nil => exact absurd hqb hne
        | cons x r => exact ⟨x, r, rfl⟩
      have hrem1 := (remQ_upd hq n).1 hb
      rw [runF_some hs hq, contF_sorted hS hb hq]
      rw [hcong] at hs
      by_cases hbw : b = w
      · subst hbw
        obtain ⟨rfl, rfl⟩ : x = x0 ∧ r = r0 := by rw [hq0] at hq; injection hq with e1 e2; exact ⟨e1.symm, e2.symm⟩
        have hqB : brk Q b (m + 1) b = x :: r.take m := by unfold brk; rw [upd_same, hq0]; rfl
        rw [runF_some hs hqB]
        have hrem2 := (remQ_upd hqB n).1 hb
        by_cases hm0 : m = 0
        · subst hm0
          have hc : contF n (enW b) k2 (brk Q b (0 + 1)) b x (r.take 0) = ([], 77, upd (brk Q b (0 + 1)) b []) := by
            unfold contF enW; rw [List.take_zero]; simp
          rw [hc]
          exact ⟨rfl, [x], _, rfl, rfl, Nat.zero_lt_one, by rw [hq0]; rfl⟩
        · have hc : contF n (enW b) k2 (brk Q b (m + 1)) b x (r.take m) = runF n (enW b) k2 (brk (upd Q b r) b m) := by
            rw [← brk_step]
            have hr : r ≠ [] := by rintro rfl; rw [hq0] at hl; simp at hl; omega
            unfold contF
            cases r with
            | nil => exact absurd rfl hr
            | cons y r' =>
              obtain ⟨m', rfl⟩ : ∃ m', m = m' + 1 := ⟨m - 1, by omega⟩
              rw [List.take_succ_cons]
              have := hS.each b hb
              rw [hq0] at this
              have := (List.pairwise_cons.1 this).1 y (by simp)
              have hnl : ¬ y.1 < x.1 := by unfold ltT at this; omega
              simp [hnl]
          rw [hc]
          obtain ⟨i1, out, tail, i2, i3, i4, i5⟩ := runF_brk hw k2 k1 (upd Q b r) m (by omega) (by rw [upd_same]; rw [hq0] at hl; simpa using hl) (hS.upd hq0) (by omega) (by rw [← brk_step]; omega)
          refine ⟨i1, x :: out, tail, by rw [i2], by rw [i3]; rfl, by simp, ?_⟩
          rw [upd_same] at i5
          rw [hq0]
          obtain ⟨o, ho⟩ : ∃ o, out.length = o + 1 := ⟨out.length - 1, by omega⟩
          obtain ⟨m', rfl⟩ : ∃ m', m = m' + 1 := ⟨m - 1, by omega⟩
          simp only [List.length_cons, ho, Nat.add_sub_cancel, List.getElem?_cons_succ] at i5 ⊢
          exact i5
      · have hqB : brk Q w (m + 1) b = x :: r := by unfold brk; rw [upd_ne _ _ hbw]; exact hq
        rw [runF_some hs hqB]
        have hrem2 := (remQ_upd hqB n).1 hb
        have hc : contF n (enW w) k2 (brk Q w (m + 1)) b x r = runF n (enW w) k2 (brk (upd Q b r) w (m + 1)) := by
          rw [← brk_upd hbw]
          unfold contF
          cases r with
          | nil => simp [enW, upd_ne _ _ hbw]
          | cons y r' =>
            have := hS.each b hb
            rw [hq] at this
            have := (List.pairwise_cons.1 this).1 y (by simp)
            have hnl : ¬ y.1 < x.1 := by unfold ltT at this; omega
            simp [hnl]
        rw [hc]
        have hww : upd Q b r w = Q w := upd_ne _ _ (fun e => hbw e.symm)
        obtain ⟨i1, out, tail, i2, i3, i4, i5⟩ := runF_brk hw k2 k1 (upd Q b r) (m + 1) (by omega) (by rw [hww]; exact hl) (hS.upd hq) (by omega) (by rw [← brk_upd hbw]; omega)
        refine ⟨i1, x :: out, tail, by rw [i2], by rw [i3]; rfl, by simp, ?_⟩
        rw [hww] at i5
        obtain ⟨o, ho⟩ : ∃ o, out.length = o + 1 := ⟨out.length - 1, by omega⟩
        simp only [List.length_cons, ho, Nat.add_sub_cancel, List.getElem?_cons_succ] at i5 ⊢
        exact i5
theorem firstE_none {Q : Nat → List Thing} {en : Nat → Int} : ∀ (k i : Nat), (∀ j, i ≤ j → j < i + k → Q j = [] → en j = 0) → firstE Q en k i = none
  | 0, _, _ => rfl
  | k + 1, i, h => by
    rw [firstE, if_neg (fun ⟨h1, h2⟩ => h2 (h i (Nat.le_refl _) (by omega) h1))]
    exact firstE_none k (i + 1) fun j h1 h2 => h j (by omega) (by omega)
theorem firstE_some {Q : Nat → List Thing} {en : Nat → Int} {w : Nat} (hq : Q w = []) (he : en w ≠ 0) : ∀ (k i : Nat), i ≤ w → w < i + k → (∀ j, j < w → en j = 0) → firstE Q en k i = some w
  | 0, i, h1, h2, _ => by omega
  | k + 1, i, h1, h2, h => by
    rw [firstE]
    by_cases e : i = w
    · subst e; rw [if_pos ⟨hq, he⟩]
    · rw [if_neg (fun ⟨_, h3⟩ => h3 (h i (by omega)))]
      exact firstE_some hq he k (i + 1) (by omega) (by omega) h
theorem runM_brk0 {n w : Nat} (hw : w < n) (Q : Nat → List Thing) : runM n (enW w) (brk Q w 0) = ([], 77) := by
  unfold runM
  rw [firstE_some (w := w) (by unfold brk; rw [upd_same]; rfl) (by unfold enW; rw [upd_same]; decide) n 0 (Nat.zero_le _) (by omega) fun j hj => by unfold enW; rw [upd_ne _ _ (by omega)]]
  simp only [enW, upd_same]
theorem runM_brk {n w m : Nat} (hw : w < n) {Q : Nat → List Thing} (hm : 0 < m) (hl : m ≤ (Q w).length) (hS : Sorted n Q) :
    (runM n (enW w) (brk Q w m)).2 = 77 ∧ ∃ out tail, (runM n (enW w) (brk Q w m)).1 = out ∧ (runM n (fun _ => 0) Q).1 = out ++ tail ∧ 0 < out.length ∧ out[out.length - 1]? = (Q w)[m - 1]? := by
  have h1 : firstE Q (fun _ => 0) n 0 = none := firstE_none n 0 fun _ _ _ _ => rfl
  have h2 : firstE (brk Q w m) (enW w) n 0 = none := firstE_none n 0 fun j _ _ hj => by
    by_cases e : j = w
    · subst e
      unfold brk at hj
      rw [upd_same] at hj
      have := congrArg List.length hj
      rw [List.length_take, List.length_nil] at this; omega
    · unfold enW; rw [upd_ne _ _ e]
  unfold runM
  rw [h1, h2]
  exact runF_brk hw _ _ Q m hm hl hS (Nat.le_refl _) (Nat.le_refl _)
end Go.Proofs.Ytfhojgammfkabaa
