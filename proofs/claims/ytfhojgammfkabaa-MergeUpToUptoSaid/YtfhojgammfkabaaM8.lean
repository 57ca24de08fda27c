/- All that a merge tells. -/
import Derived.Test.YtfhojgammfkabaaM7
namespace Go.Proofs.Ytfhojgammfkabaa
open Go.Vw

/-! ### told plainly -/
def hdK (l : List Thing) : Int := (l.head?.map (·.1)).getD 0
/-- the first of those whose first thing is least -/
def scan (Q : Nat → List Thing) : Nat → Option Nat
  | 0 => none
  | i + 1 => match scan Q i with
    | none => if Q i = [] then none else some i
    | some b => if Q i ≠ [] ∧ hdK (Q i) < hdK (Q b) then some i else some b
theorem scan_none {Q : Nat → List Thing} : ∀ {m : Nat}, scan Q m = none ↔ ∀ i, i < m → Q i = []
  | 0 => by simp [scan]
  | m + 1 => by
    rw [scan]
    have ih := scan_none (Q := Q) (m := m)
    cases h : scan Q m with
    | none =>
      have ih' := ih.1 h
      constructor
      · intro hh i hi
        by_cases him : i < m
        · exact ih' i him
        · have : i = m := by omega
          subst this
          by_cases hq : Q i = []
          · exact hq
          · simp [hq] at hh
      · intro hh; simp [hh m (by omega)]
    | some b =>
      constructor
      · intro hh; simp at hh; split at hh <;> cases hh
      · intro hh
        have := ih.2 fun i hi => hh i (by omega)
        rw [h] at this; cases this
theorem scan_some {Q : Nat → List Thing} : ∀ {m b : Nat}, scan Q m = some b → b < m ∧ Q b ≠ [] ∧ ∀ i, i < m → Q i ≠ [] → hdK (Q b) ≤ hdK (Q i) ∧ (hdK (Q b) = hdK (Q i) → b ≤ i)
  | 0, b, h => by simp [scan] at h
  | m + 1, b, h => by
    rw [scan] at h
    cases hs : scan Q m with
    | none =>
      rw [hs] at h
      have hn := scan_none.1 hs
      by_cases hq : Q m = []
      · simp [hq] at h
      · simp [hq] at h; subst h
        refine ⟨by omega, hq, fun i hi hqi => ?_⟩
        by_cases him : i < m
        · exact absurd (hn i him) hqi
        · have : i = m := by omega
          subst this; exact ⟨Int.le_refl _, fun _ => Nat.le_refl _⟩
    | some c =>
      rw [hs] at h
      obtain ⟨h1, h2, h3⟩ := scan_some hs
      simp only at h
      split at h
      · rename_i hc; cases h
        refine ⟨by omega, hc.1, fun i hi hqi => ?_⟩
        by_cases him : i < m
        · have := h3 i him hqi; exact ⟨by omega, fun e => by omega⟩
        · have : i = m := by omega
          subst this; exact ⟨Int.le_refl _, fun _ => Nat.le_refl _⟩
      · rename_i hc; cases h
        refine ⟨by omega, h2, fun i hi hqi => ?_⟩
        by_cases him : i < m
        · exact h3 i him hqi
        · have : i = m := by omega
          subst this
          have : ¬ hdK (Q i) < hdK (Q b) := fun h => hc ⟨hqi, h⟩
          exact ⟨by omega, fun _ => by omega⟩
/-- all that is told from here on, the error at the end, what is left then -/
def runF (n : Nat) (en : Nat → Int) : Nat → (Nat → List Thing) → List Thing × Int × (Nat → List Thing)
  | 0, Q => ([], 0, Q)
  | k + 1, Q => match scan Q n with
    | none => ([], 0, Q)
    | some b => match Q b with
      | [] => ([], 0, Q)
      | x :: r => match r with
        | [] => if en b ≠ 0 then ([x], en b, upd Q b []) else (x :: (runF n en k (upd Q b [])).1, (runF n en k (upd Q b [])).2)
        | y :: r' => if y.1 < x.1 then ([x], 61, upd Q b (y :: r')) else (x :: (runF n en k (upd Q b (y :: r'))).1, (runF n en k (upd Q b (y :: r'))).2)
/-- what is told behind thing x of source b -/
def contF (n : Nat) (en : Nat → Int) (k : Nat) (Q : Nat → List Thing) (b : Nat) (x : Thing) (r : List Thing) : List Thing × Int × (Nat → List Thing) :=
  match r with
  | [] => if en b ≠ 0 then ([], en b, upd Q b []) else runF n en k (upd Q b [])
  | y :: r' => if y.1 < x.1 then ([], 61, upd Q b (y :: r')) else runF n en k (upd Q b (y :: r'))
def remQ (Q : Nat → List Thing) : Nat → Nat
  | 0 => 0
  | i + 1 => remQ Q i + (Q i).length
theorem runF_some {n : Nat} {en : Nat → Int} {k : Nat} {Q : Nat → List Thing} {b : Nat} {x : Thing} {r : List Thing} (hs : scan Q n = some b) (hq : Q b = x :: r) : runF n en (k + 1) Q = (x :: (contF n en k Q b x r).1, (contF n en k Q b x r).2) := by
  rw [runF, hs]; simp only; rw [hq]
  cases r with
  | nil => simp only [contF]; split <;> rfl
  | cons y r => simp only [contF]; split <;> rfl
theorem runF_none {n : Nat} {en : Nat → Int} {k : Nat} {Q : Nat → List Thing} (hs : scan Q n = none) : runF n en k Q = ([], 0, Q) := by
  cases k with
  | zero => rfl
  | succ k => rw [runF, hs]
theorem remQ_upd {Q : Nat → List Thing} {b : Nat} {x : Thing} {r : List Thing} (hq : Q b = x :: r) : ∀ n, (b < n → remQ (upd Q b r) n + 1 = remQ Q n) ∧ (n ≤ b → remQ (upd Q b r) n = remQ Q n)
  | 0 => ⟨fun h => by omega, fun _ => rfl⟩
  | n + 1 => by
    obtain ⟨h1, h2⟩ := remQ_upd hq n
    constructor
    · intro hb
      rw [remQ, remQ]
      by_cases hbn : b < n
      · rw [← h1 hbn, upd_ne _ _ (by omega : n ≠ b)]; omega
      · have : n = b := by omega
        subst this
        rw [h2 (Nat.le_refl _), upd_same, hq]; simp; omega
    · intro hb
      rw [remQ, remQ, h2 (by omega), upd_ne _ _ (by omega : n ≠ b)]
theorem remQ_pos {Q : Nat → List Thing} {b : Nat} (hq : Q b ≠ []) : ∀ n, b < n → 0 < remQ Q n
  | 0, h => by omega
  | n + 1, h => by
    rw [remQ]
    by_cases hbn : b < n
    · have := remQ_pos hq n hbn; omega
    · have : n = b := by omega
      subst this
      have : 0 < (Q n).length := List.length_pos_iff.2 hq
      omega
/-- the first source that has nothing but an error -/
def firstE (Q : Nat → List Thing) (en : Nat → Int) : Nat → Nat → Option Nat
  | 0, _ => none
  | k + 1, i => if Q i = [] ∧ en i ≠ 0 then some i else firstE Q en k (i + 1)
/-- all that a merge of these tells -/
def runM (n : Nat) (en : Nat → Int) (Q : Nat → List Thing) : List Thing × Int :=
  match firstE Q en n 0 with
  | some i => ([], en i)
  | none => ((runF n en (remQ Q n) Q).1, (runF n en (remQ Q n) Q).2.1)
/-! ### sources that tell lists -/
/-- in state t each source i has yet to tell what R i says (none: it has told its end) -/
structure Lists {σ : Type} (S : Srcs σ) (en : Nat → Int) (St : σ → (Nat → Option (List Thing)) → Prop) : Prop where
  one : ∀ t R i x r, i < S.n → St t R → R i = some (x :: r) → (S.ask t i).1 = (x, true, 0) ∧ St (S.ask t i).2 (upd R i (some r))
  nil : ∀ t R i, i < S.n → St t R → R i = some [] → (S.ask t i).1.2 = (false, en i) ∧ St (S.ask t i).2 (upd R i none)
/-- the things that lie ready, and those behind them -/
structure Rel {σ : Type} (n : Nat) (St : σ → (Nat → Option (List Thing)) → Prop) (s : MS) (t : σ) (Q : Nat → List Thing) (m : Nat) (Q0 : Nat → List Thing) : Prop where
  ok1 : s.hd.length = n
  ok2 : s.sm.length = n
  ex : ∃ R, St t R ∧ (∀ i, i < m → (getB s.sm i = true → ∃ r, R i = some r ∧ Q i = getT s.hd i :: r) ∧ (getB s.sm i = false → R i = none ∧ Q i = [])) ∧ (∀ i, m ≤ i → i < n → R i = some (Q0 i) ∧ Q i = Q0 i ∧ getB s.sm i = false)
/-- what source i has yet to tell, when its first thing lies ready -/
def RQ (Q : Nat → List Thing) (R : Nat → Option (List Thing)) (i : Nat) : Prop := (Q i = [] ∧ R i = none) ∨ ∃ y r, Q i = y :: r ∧ R i = some r
section
variable {σ : Type} {S : Srcs σ} {en : Nat → Int} {St : σ → (Nat → Option (List Thing)) → Prop}
theorem getB_set {l : List Bool} {i j : Nat} {x : Bool} (h : i < l.length) : getB (l.set i x) j = if j = i then x else getB l j := by
  unfold getB; rw [List.getElem?_set]
  by_cases e : j = i
  · subst e; simp [h]
  · rw [if_neg (fun h => e h.symm), if_neg e]
theorem getT_set {l : List Thing} {i j : Nat} {x : Thing} (h : i < l.length) : getT (l.set i x) j = if j = i then x else getT l j := by
  unfold getT; rw [List.getElem?_set]
  by_cases e : j = i
  · subst e; simp [h]
  · rw [if_neg (fun h => e h.symm), if_neg e]
/-- asking all, at the beginning -/
theorem askAll_rel (hS : Lists S en St) {Q0 : Nat → List Thing} : ∀ (k : Nat) (s : MS) (t : σ) (i : Nat), i + k = S.n → Rel S.n St s t Q0 i Q0 →
    (∀ j, firstE Q0 en k i = some j → (askAllM S cmpT k s t i).1 = en j ∧ en j ≠ 0 ∧ ∃ R, St (askAllM S cmpT k s t i).2.2 R ∧ (∀ a, a ≤ j → RQ Q0 R a) ∧ ∀ a, j < a → a < S.n → R a = some (Q0 a)) ∧
    (firstE Q0 en k i = none → (askAllM S cmpT k s t i).1 = 0 ∧ Rel S.n St (askAllM S cmpT k s t i).2.1 (askAllM S cmpT k s t i).2.2 Q0 S.n Q0)
  | 0, s, t, i, hi, h => by
    have e : i = S.n := by omega
    subst e
    exact ⟨fun j hj => by simp [firstE] at hj, fun _ => ⟨rfl, h⟩⟩
  | k + 1, s, t, i, hi, h => by
    have hin : i < S.n := by omega
    obtain ⟨R, hR, h1, h2⟩ := h.ex
    obtain ⟨r1, r2, r3⟩ := h2 i (Nat.le_refl _) hin
    rw [askAllM, firstE]
    cases hq : Q0 i with
    | nil =>
      rw [hq] at r1
      obtain ⟨a1, a2⟩ := hS.nil t R i hin hR r1
      have a1' : (S.ask t i).1.2.1 = false ∧ (S.ask t i).1.2.2 = en i := ⟨by rw [a1], by rw [a1]⟩
      by_cases he : en i = 0
      · have hm : asksM S cmpT s t i = (0, { s with hd := s.hd.set i (S.ask t i).1.1, sm := s.sm.set i (S.ask t i).1.2.1 }, (S.ask t i).2) := by
          unfold asksM
          rw [if_neg (by rw [a1'.2]; simpa using he), if_neg (by rw [a1'.1]; simp)]
        rw [if_neg (show ¬ (([] : List Thing) = [] ∧ en i ≠ 0) by simp [he]), if_neg (show ¬ (asksM S cmpT s t i).1 ≠ 0 by rw [hm]; simp)]
        rw [hm]
        refine askAll_rel hS k _ _ (i + 1) (by omega) ⟨by simp [h.ok1], by simp [h.ok2], upd R i none, a2, fun j hj => ?_, fun j hj hjn => ?_⟩
        · by_cases hji : j = i
          · subst hji
            refine ⟨fun hb => ?_, fun _ => ⟨upd_same .., hq⟩⟩
            rw [getB_set (by rw [h.ok2]; exact hin), if_pos rfl, a1'.1] at hb; cases hb
          · rw [getB_set (by rw [h.ok2]; exact hin), if_neg hji, getT_set (by rw [h.ok1]; exact hin), if_neg hji, upd_ne _ _ hji]
            exact h1 j (by omega)
        · have hji : j ≠ i := by omega
          rw [getB_set (by rw [h.ok2]; exact hin), if_neg hji, upd_ne _ _ hji]
          exact h2 j (by omega) hjn
      · have hm : asksM S cmpT s t i = (en i, { s with ov := true, e := en i }, (S.ask t i).2) := by
          unfold asksM; rw [if_pos (by rw [a1'.2]; exact he), a1'.2]
        rw [if_pos (show (([] : List Thing) = [] ∧ en i ≠ 0) from ⟨rfl, he⟩), if_pos (show (asksM S cmpT s t i).1 ≠ 0 by rw [hm]; exact he)]
        refine ⟨fun j hj => ?_, fun hj => by cases hj⟩
        cases hj
        rw [hm]
        refine ⟨rfl, he, upd R i none, a2, fun a ha => ?_, fun a ha hn => ?_⟩
        · by_cases hai : a = i
          · subst hai; exact .inl ⟨hq, upd_same ..⟩
          · unfold RQ
            rw [upd_ne _ _ hai]
            cases hg : getB s.sm a with
            | true => obtain ⟨r, e1, e2⟩ := (h1 a (by omega)).1 hg; exact .inr ⟨_, r, e2, e1⟩
            | false => obtain ⟨e1, e2⟩ := (h1 a (by omega)).2 hg; exact .inl ⟨e2, e1⟩
        · rw [upd_ne _ _ (by omega)]; exact (h2 a (by omega) hn).1
    | cons x r =>
      rw [hq] at r1
      obtain ⟨a1, a2⟩ := hS.one t R i x r hin hR r1
      have hm : asksM S cmpT s t i = (0, { s with hd := s.hd.set i x, sm := s.sm.set i true }, (S.ask t i).2) := by
        unfold asksM
        rw [if_neg (by rw [a1]; simp), if_neg (by rw [r3]; simp), a1]
      rw [if_neg (show ¬ ((x :: r) = [] ∧ en i ≠ 0) by simp), if_neg (show ¬ (asksM S cmpT s t i).1 ≠ 0 by rw [hm]; simp)]
      rw [hm]
      refine askAll_rel hS k _ _ (i + 1) (by omega) ⟨by simp [h.ok1], by simp [h.ok2], upd R i (some r), a2, fun j hj => ?_, fun j hj hjn => ?_⟩
      · by_cases hji : j = i
        · subst hji
          refine ⟨fun _ => ⟨r, upd_same .., ?_⟩, fun hb => ?_⟩
          · rw [getT_set (by rw [h.ok1]; exact hin), if_pos rfl]; exact hq
          · rw [getB_set (by rw [h.ok2]; exact hin), if_pos rfl] at hb; cases hb
        · rw [getB_set (by rw [h.ok2]; exact hin), if_neg hji, getT_set (by rw [h.ok1]; exact hin), if_neg hji, upd_ne _ _ hji]
          exact h1 j (by omega)
      · have hji : j ≠ i := by omega
        rw [getB_set (by rw [h.ok2]; exact hin), if_neg hji, upd_ne _ _ hji]
        exact h2 j (by omega) hjn
/-- the winner is the first of the least -/
theorem best_scan {n : Nat} {s : MS} {t : σ} {Q Q0 : Nat → List Thing} (h : Rel n St s t Q n Q0) (hb : Best cmpT n s) : (getB s.sm s.win = true → scan Q n = some s.win) ∧ (getB s.sm s.win = false → scan Q n = none) := by
  obtain ⟨R, hR, h1, _⟩ := h.ex
  obtain ⟨hw, hbest⟩ := hb
  have hQ : ∀ i, i < n → (getB s.sm i = true ↔ Q i ≠ []) := fun i hi => by
    cases hg : getB s.sm i with
    | true => obtain ⟨r, _, hr⟩ := (h1 i hi).1 hg; simp [hr]
    | false => simp [((h1 i hi).2 hg).2]
  have hK : ∀ i, i < n → getB s.sm i = true → hdK (Q i) = (getT s.hd i).1 := fun i hi hg => by
    obtain ⟨r, _, hr⟩ := (h1 i hi).1 hg; simp [hr, hdK]
  refine ⟨fun hg => ?_, fun hg => scan_none.2 fun i hi => ?_⟩
  · cases hs : scan Q n with
    | none => exact absurd (scan_none.1 hs _ hw) ((hQ _ hw).1 hg)
    | some b =>
      obtain ⟨hbn, hbq, hbl⟩ := scan_some hs
      have hgb := (hQ b hbn).2 hbq
      have hA := hbest b hbn
      obtain ⟨c1, c2⟩ := hbl s.win hw ((hQ _ hw).1 hg)
      rw [hK b hbn hgb, hK _ hw hg] at c1 c2
      unfold aheadM cmpT at hA
      rw [hgb, hg] at hA
      simp only [Bool.not_true, Bool.or_self, Bool.false_eq_true, if_false] at hA
      congr 1
      have hkeep : ¬ (getT s.hd b).1 < (getT s.hd s.win).1 := fun hlt => by simp [hlt] at hA
      have heq : (getT s.hd b).1 = (getT s.hd s.win).1 := by omega
      have := c2 heq
      simp [heq] at hA
      omega
  · have hA := hbest i hi
    unfold aheadM at hA
    rw [hg] at hA
    simp at hA
    exact ((h1 i hi).2 hA).2
end
end Go.Proofs.Ytfhojgammfkabaa
