/- A merge of records: the texts of a merge of things, printed again by tools/rec.py. -/
import Derived.Test.YtfhojgammfkabaaMB
import Derived.Test.YtfhojgammfkabaaCO
namespace Go.Proofs.Ytfhojgammfkabaa.Rc
open Go.Vw
section
variable {cmp : Thing → Thing → Int} {n : Nat} {s : MS}
theorem playsL_up : ∀ (a : Nat) (l : List (Option Nat)) (i : Nat), a < l.length → getL (playsL cmp s l i a).1 = (up (aheadM cmp s) (getL l) i a).1 ∧ (playsL cmp s l i a).2 = (up (aheadM cmp s) (getL l) i a).2 := by
  intro a
  induction a using Nat.strongRecOn with
  | _ a ih =>
    intro l i ha
    rw [playsL, up]
    by_cases h0 : a = 0
    · rw [dif_pos h0, dif_pos h0]; exact ⟨rfl, rfl⟩
    · rw [dif_neg h0, dif_neg h0]
      cases hg : getL l a with
      | none => exact ⟨getL_set ha, rfl⟩
      | some o =>
        simp only
        by_cases hA : aheadM cmp s o i = true
        · rw [if_pos hA, if_pos hA]
          have := ih (a / 2) (by omega) (l.set a (some i)) o (by simp; omega)
          rw [getL_set ha] at this
          exact this
        · rw [if_neg hA, if_neg hA]
          exact ih (a / 2) (by omega) l i (by omega)
/-- the winner is the champion -/
def Top (cmp : Thing → Thing → Int) (n : Nat) (s : MS) (l : List (Option Nat)) : Prop := Ch n (aheadM cmp s) (getL l) 1 s.win
theorem playsM_inv (has : ∀ i j, aheadM cmp s i j = true → aheadM cmp s j i = false) {l : List (Option Nat)} {D : Nat → Prop} (hl : n ≤ l.length) (h : Inv n (aheadM cmp s) (getL l) D) {i : Nat} (hi : i < n) (hd : ¬ D i) :
    Inv n (aheadM cmp s) (getL (playsM cmp n s l i).2) (fun j => D j ∨ j = i) ∧ ((∀ j, j < n → (D j ∨ j = i)) → Ch n (aheadM cmp s) (getL (playsM cmp n s l i).2) 1 (playsM cmp n s l i).1.win) := by
  obtain ⟨h1, h2, h3⟩ := h.plays has hi hd
  obtain ⟨e1, e2⟩ := playsL_up (cmp := cmp) (s := s) ((i + n) / 2) l i (by omega)
  rw [← e1] at h1 h2
  rw [← e2] at h2 h3
  unfold playsM
  generalize hp : playsL cmp s l i ((i + n) / 2) = p at h1 h2 h3
  obtain ⟨l', o⟩ := p
  cases o with
  | some w => exact ⟨h1, fun _ => h2 w rfl⟩
  | none => exact ⟨h1, fun hall => absurd hall (h3 rfl)⟩
theorem aheadM_congr {s' : MS} (h1 : s'.hd = s.hd) (h2 : s'.sm = s.sm) : aheadM cmp s' = aheadM cmp s := by
  funext i j; unfold aheadM; rw [h1, h2]
theorem playAllM_inv (has : ∀ (s : MS) i j, aheadM cmp s i j = true → aheadM cmp s j i = false) : ∀ (k : Nat) (s : MS) (l : List (Option Nat)) (i : Nat), i + k = n → 0 < k → n ≤ l.length → ValidL n l → Inv n (aheadM cmp s) (getL l) (fun j => j < i) → Top cmp n (playAllM cmp n k s l i).1 (playAllM cmp n k s l i).2
  | 0, s, l, i, _, h, _, _, _ => by omega
  | k + 1, s, l, i, hk, _, hl, hv, h => by
    obtain ⟨h1, h2⟩ := playsM_inv (has s) hl h (i := i) (by omega) (by omega)
    obtain ⟨a1, a2, a3, a4, a5⟩ := playsM_keep (cmp := cmp) (n := n) (s := s) (l := l) (i := i)
    obtain ⟨b1, b2⟩ := playsM_len (cmp := cmp) (s := s) (l := l) (i := i) (n := n) (by omega) hv hl
    rw [playAllM]
    cases k with
    | zero =>
      rw [playAllM]
      unfold Top
      rw [aheadM_congr a4 a5]
      exact h2 fun j hj => by omega
    | succ k =>
      refine playAllM_inv has (k + 1) _ _ (i + 1) (by omega) (by omega) (by rw [b1]; exact hl) b2 ?_
      rw [aheadM_congr a4 a5]
      exact h1.of fun j hj => by omega
end
/-! ### what is told -/
/-- nothing comes ahead of this one -/
def Best (cmp : Thing → Thing → Int) (n : Nat) (s : MS) : Prop := s.win < n ∧ ∀ i, i < n → aheadM cmp s i s.win = false
theorem aheadT_eq (s : MS) (i j : Nat) : aheadM cmpT s i j = if !getB s.sm i || !getB s.sm j then getB s.sm i else bf (getT s.hd i) (getT s.hd j) || (!bf (getT s.hd j) (getT s.hd i) && decide (i < j)) := by
  unfold aheadM
  simp only [cmpT_lt, cmpT_eq]
  split
  · rfl
  · cases bf (getT s.hd i) (getT s.hd j) <;> simp
theorem aheadT_asym (s : MS) (i j : Nat) (h : aheadM cmpT s i j = true) : aheadM cmpT s j i = false := by
  rw [aheadT_eq] at *
  cases hi : getB s.sm i <;> cases hj : getB s.sm j <;> simp_all
  rcases h with h | ⟨h, h2⟩
  · refine ⟨bf_asym h, fun h' => by rw [h] at h'; cases h'⟩
  · exact ⟨h, fun _ => by omega⟩
theorem aheadT_irr (s : MS) (i : Nat) : aheadM cmpT s i i = false := by
  rw [aheadT_eq]
  cases hi : getB s.sm i <;> simp [bf_irr]
theorem aheadT_trans (s : MS) (i j k : Nat) (h1 : aheadM cmpT s i j = false) (h2 : aheadM cmpT s j k = false) : aheadM cmpT s i k = false := by
  rw [aheadT_eq] at *
  cases hi : getB s.sm i <;> cases hj : getB s.sm j <;> cases hk : getB s.sm k <;> simp_all
  obtain ⟨a1, a2⟩ := h1
  obtain ⟨b1, b2⟩ := h2
  refine ⟨bf_nt a1 b1, fun h => ?_⟩
  cases c1 : bf (getT s.hd j) (getT s.hd i) with
  | true =>
    cases c2 : bf (getT s.hd k) (getT s.hd j) with
    | true => have := bf_trans c2 c1; rw [h] at this; cases this
    | false =>
      have := bf_congr (bf_ff c2 b1) (⟨rfl, rfl⟩ : (getT s.hd i).1 = (getT s.hd i).1 ∧ (getT s.hd i).2.1 = (getT s.hd i).2.1)
      rw [h, c1] at this; cases this
  | false =>
    have e := bf_ff c1 a1
    cases c2 : bf (getT s.hd k) (getT s.hd j) with
    | true =>
      have := bf_congr (⟨rfl, rfl⟩ : (getT s.hd k).1 = (getT s.hd k).1 ∧ (getT s.hd k).2.1 = (getT s.hd k).2.1) e
      rw [h, c2] at this; cases this
    | false => exact Nat.le_trans (b2 c2) (a2 c1)
theorem Top.best {n : Nat} {s : MS} {l : List (Option Nat)} (hn : 0 < n) (h : Top cmpT n s l) : Best cmpT n s :=
  ⟨h.sub.1, fun i hi => Ch.best (aheadT_irr s) (aheadT_trans s) h i hi (sub_one (by omega))⟩
end Go.Proofs.Ytfhojgammfkabaa.Rc

namespace Go.Proofs.Ytfhojgammfkabaa.Rc
open Go.Vw

/-! ### told plainly -/
def hdK (l : List Thing) : Thing := l.head?.getD (0, [], [])
/-- the first of those whose first thing is least -/
def scan (Q : Nat → List Thing) : Nat → Option Nat
  | 0 => none
  | i + 1 => match scan Q i with
    | none => if Q i = [] then none else some i
    | some b => if Q i ≠ [] ∧ bf (hdK (Q i)) (hdK (Q b)) = true then some i else some b
theorem scan_none {Q : Nat → List Thing} : ∀ {m : Nat}, scan Q m = none ↔ ∀ i, i < m → Q i = []
  | 0 => by simp [scan]
  | m + 1 => by
    rw [scan]
    have ih := scan_none (Q := Q) (m := m)
    cases h : scan Q m with
    | none =>
      have ih' := ih.1 h
      constructor
      · intro hh i hi
        by_cases him : i < m
        · exact ih' i him
        · have : i = m := by omega
          subst this
          by_cases hq : Q i = []
          · exact hq
          · simp [hq] at hh
      · intro hh; simp [hh m (by omega)]
    | some b =>
      constructor
      · intro hh; simp at hh; split at hh <;> cases hh
      · intro hh
        have := ih.2 fun i hi => hh i (by omega)
        rw [h] at this; cases this
theorem scan_some {Q : Nat → List Thing} : ∀ {m b : Nat}, scan Q m = some b → b < m ∧ Q b ≠ [] ∧ ∀ i, i < m → Q i ≠ [] → bf (hdK (Q i)) (hdK (Q b)) = false ∧ (bf (hdK (Q b)) (hdK (Q i)) = false → b ≤ i)
  | 0, b, h => by simp [scan] at h
  | m + 1, b, h => by
    rw [scan] at h
    cases hs : scan Q m with
    | none =>
      rw [hs] at h
      have hn := scan_none.1 hs
      by_cases hq : Q m = []
      · simp [hq] at h
      · simp [hq] at h; subst h
        refine ⟨by omega, hq, fun i hi hqi => ?_⟩
        by_cases him : i < m
        · exact absurd (hn i him) hqi
        · have : i = m := by omega
          subst this; exact ⟨bf_irr _, fun _ => Nat.le_refl _⟩
    | some c =>
      rw [hs] at h
      obtain ⟨h1, h2, h3⟩ := scan_some hs
      simp only at h
      split at h
      · rename_i hc; cases h
        refine ⟨by omega, hc.1, fun i hi hqi => ?_⟩
        by_cases him : i < m
        · obtain ⟨k1, k2⟩ := h3 i him hqi
          refine ⟨bf_nt k1 (bf_asym hc.2), fun e => ?_⟩
          have := bf_nt e k1
          rw [hc.2] at this; cases this
        · have : i = m := by omega
          subst this; exact ⟨bf_irr _, fun _ => Nat.le_refl _⟩
      · rename_i hc; cases h
        refine ⟨by omega, h2, fun i hi hqi => ?_⟩
        by_cases him : i < m
        · exact h3 i him hqi
        · have : i = m := by omega
          subst this
          refine ⟨?_, fun _ => by omega⟩
          cases hb : bf (hdK (Q i)) (hdK (Q b)) with
          | false => rfl
          | true => exact absurd ⟨hqi, hb⟩ hc
/-- all that is told from here on, the error at the end, what is left then -/
def runF (n : Nat) (en : Nat → Int) : Nat → (Nat → List Thing) → List Thing × Int × (Nat → List Thing)
  | 0, Q => ([], 0, Q)
  | k + 1, Q => match scan Q n with
    | none => ([], 0, Q)
    | some b => match Q b with
      | [] => ([], 0, Q)
      | x :: r => match r with
        | [] => if en b ≠ 0 then ([x], en b, upd Q b []) else (x :: (runF n en k (upd Q b [])).1, (runF n en k (upd Q b [])).2)
        | y :: r' => if bf y x = true then ([x], 61, upd Q b (y :: r')) else (x :: (runF n en k (upd Q b (y :: r'))).1, (runF n en k (upd Q b (y :: r'))).2)
/-- what is told behind thing x of source b -/
def contF (n : Nat) (en : Nat → Int) (k : Nat) (Q : Nat → List Thing) (b : Nat) (x : Thing) (r : List Thing) : List Thing × Int × (Nat → List Thing) :=
  match r with
  | [] => if en b ≠ 0 then ([], en b, upd Q b []) else runF n en k (upd Q b [])
  | y :: r' => if bf y x = true then ([], 61, upd Q b (y :: r')) else runF n en k (upd Q b (y :: r'))
def remQ (Q : Nat → List Thing) : Nat → Nat
  | 0 => 0
  | i + 1 => remQ Q i + (Q i).length
theorem runF_some {n : Nat} {en : Nat → Int} {k : Nat} {Q : Nat → List Thing} {b : Nat} {x : Thing} {r : List Thing} (hs : scan Q n = some b) (hq : Q b = x :: r) : runF n en (k + 1) Q = (x :: (contF n en k Q b x r).1, (contF n en k Q b x r).2) := by
  rw [runF, hs]; simp only; rw [hq]
  cases r with
  | nil => simp only [contF]; split <;> rfl
  | cons y r => simp only [contF]; split <;> rfl
theorem runF_none {n : Nat} {en : Nat → Int} {k : Nat} {Q : Nat → List Thing} (hs : scan Q n = none) : runF n en k Q = ([], 0, Q) := by
  cases k with
  | zero => rfl
  | succ k => rw [runF, hs]
theorem remQ_upd {Q : Nat → List Thing} {b : Nat} {x : Thing} {r : List Thing} (hq : Q b = x :: r) : ∀ n, (b < n → remQ (upd Q b r) n + 1 = remQ Q n) ∧ (n ≤ b → remQ (upd Q b r) n = remQ Q n)
  | 0 => ⟨fun h => by omega, fun _ => rfl⟩
  | n + 1 => by
    obtain ⟨h1, h2⟩ := remQ_upd hq n
    constructor
    · intro hb
      rw [remQ, remQ]
      by_cases hbn : b < n
      · rw [← h1 hbn, upd_ne _ _ (by omega : n ≠ b)]; omega
      · have : n = b := by omega
        subst this
        rw [h2 (Nat.le_refl _), upd_same, hq]; simp; omega
    · intro hb
      rw [remQ, remQ, h2 (by omega), upd_ne _ _ (by omega : n ≠ b)]
theorem remQ_pos {Q : Nat → List Thing} {b : Nat} (hq : Q b ≠ []) : ∀ n, b < n → 0 < remQ Q n
  | 0, h => by omega
  | n + 1, h => by
    rw [remQ]
    by_cases hbn : b < n
    · have := remQ_pos hq n hbn; omega
    · have : n = b := by omega
      subst this
      have : 0 < (Q n).length := List.length_pos_iff.2 hq
      omega
/-- the first source that has nothing but an error -/
def firstE (Q : Nat → List Thing) (en : Nat → Int) : Nat → Nat → Option Nat
  | 0, _ => none
  | k + 1, i => if Q i = [] ∧ en i ≠ 0 then some i else firstE Q en k (i + 1)
/-- all that a merge of these tells -/
def runM (n : Nat) (en : Nat → Int) (Q : Nat → List Thing) : List Thing × Int :=
  match firstE Q en n 0 with
  | some i => ([], en i)
  | none => ((runF n en (remQ Q n) Q).1, (runF n en (remQ Q n) Q).2.1)
/-! ### sources that tell lists -/
/-- in state t each source i has yet to tell what R i says (none: it has told its end) -/
structure Lists {σ : Type} (S : Srcs σ) (en : Nat → Int) (St : σ → (Nat → Option (List Thing)) → Prop) : Prop where
  one : ∀ t R i x r, i < S.n → St t R → R i = some (x :: r) → (S.ask t i).1 = (x, true, 0) ∧ St (S.ask t i).2 (upd R i (some r))
  nil : ∀ t R i, i < S.n → St t R → R i = some [] → (S.ask t i).1.2 = (false, en i) ∧ St (S.ask t i).2 (upd R i none)
/-- the things that lie ready, and those behind them -/
structure Rel {σ : Type} (n : Nat) (St : σ → (Nat → Option (List Thing)) → Prop) (s : MS) (t : σ) (Q : Nat → List Thing) (m : Nat) (Q0 : Nat → List Thing) : Prop where
  ok1 : s.hd.length = n
  ok2 : s.sm.length = n
  ex : ∃ R, St t R ∧ (∀ i, i < m → (getB s.sm i = true → ∃ r, R i = some r ∧ Q i = getT s.hd i :: r) ∧ (getB s.sm i = false → R i = none ∧ Q i = [])) ∧ (∀ i, m ≤ i → i < n → R i = some (Q0 i) ∧ Q i = Q0 i ∧ getB s.sm i = false)
/-- what source i has yet to tell, when its first thing lies ready -/
def RQ (Q : Nat → List Thing) (R : Nat → Option (List Thing)) (i : Nat) : Prop := (Q i = [] ∧ R i = none) ∨ ∃ y r, Q i = y :: r ∧ R i = some r
section
variable {σ : Type} {S : Srcs σ} {en : Nat → Int} {St : σ → (Nat → Option (List Thing)) → Prop}
theorem getT_set {l : List Thing} {i j : Nat} {x : Thing} (h : i < l.length) : getT (l.set i x) j = if j = i then x else getT l j := by
  unfold getT; rw [List.getElem?_set]
  by_cases e : j = i
  · subst e; simp [h]
  · rw [if_neg (fun h => e h.symm), if_neg e]
/-- asking all, at the beginning -/
theorem askAll_rel (hS : Lists S en St) {Q0 : Nat → List Thing} : ∀ (k : Nat) (s : MS) (t : σ) (i : Nat), i + k = S.n → Rel S.n St s t Q0 i Q0 →
    (∀ j, firstE Q0 en k i = some j → (askAllM S cmpT k s t i).1 = en j ∧ en j ≠ 0 ∧ ∃ R, St (askAllM S cmpT k s t i).2.2 R ∧ (∀ a, a ≤ j → RQ Q0 R a) ∧ ∀ a, j < a → a < S.n → R a = some (Q0 a)) ∧
    (firstE Q0 en k i = none → (askAllM S cmpT k s t i).1 = 0 ∧ Rel S.n St (askAllM S cmpT k s t i).2.1 (askAllM S cmpT k s t i).2.2 Q0 S.n Q0)
  | 0, s, t, i, hi, h => by
    have e : i = S.n := by omega
    subst e
    exact ⟨fun j hj => by simp [firstE] at hj, fun _ => ⟨rfl, h⟩⟩
  | k + 1, s, t, i, hi, h => by
    have hin : i < S.n := by omega
    obtain ⟨R, hR, h1, h2⟩ := h.ex
    obtain ⟨r1, r2, r3⟩ := h2 i (Nat.le_refl _) hin
    rw [askAllM, firstE]
    cases hq : Q0 i with
    | nil =>
      rw [hq] at r1
      obtain ⟨a1, a2⟩ := hS.nil t R i hin hR r1
      have a1' : (S.ask t i).1.2.1 = false ∧ (S.ask t i).1.2.2 = en i := ⟨by rw [a1], by rw [a1]⟩
      by_cases he : en i = 0
      · have hm : asksM S cmpT s t i = (0, { s with hd := s.hd.set i (S.ask t i).1.1, sm := s.sm.set i (S.ask t i).1.2.1 }, (S.ask t i).2) := by
          unfold asksM
          rw [if_neg (by rw [a1'.2]; simpa using he), if_neg (by rw [a1'.1]; simp)]
        rw [if_neg (show ¬ (([] : List Thing) = [] ∧ en i ≠ 0) by simp [he]), if_neg (show ¬ (asksM S cmpT s t i).1 ≠ 0 by rw [hm]; simp)]
        rw [hm]
        refine askAll_rel hS k _ _ (i + 1) (by omega) ⟨by simp [h.ok1], by simp [h.ok2], upd R i none, a2, fun j hj => ?_, fun j hj hjn => ?_⟩
        · by_cases hji : j = i
          · subst hji
            refine ⟨fun hb => ?_, fun _ => ⟨upd_same .., hq⟩⟩
            rw [getB_set (by rw [h.ok2]; exact hin), if_pos rfl, a1'.1] at hb; cases hb
          · rw [getB_set (by rw [h.ok2]; exact hin), if_neg hji, getT_set (by rw [h.ok1]; exact hin), if_neg hji, upd_ne _ _ hji]
            exact h1 j (by omega)
        · have hji : j ≠ i := by omega
          rw [getB_set (by rw [h.ok2]; exact hin), if_neg hji, upd_ne _ _ hji]
          exact h2 j (by omega) hjn
      · have hm : asksM S cmpT s t i = (en i, { s with ov := true, e := en i }, (S.ask t i).2) := by
          unfold asksM; rw [if_pos (by rw [a1'.2]; exact he), a1'.2]
        rw [if_pos (show (([] : List Thing) = [] ∧ en i ≠ 0) from ⟨rfl, he⟩), if_pos (show (asksM S cmpT s t i).1 ≠ 0 by rw [hm]; exact he)]
        refine ⟨fun j hj => ?_, fun hj => by cases hj⟩
        cases hj
        rw [hm]
        refine ⟨rfl, he, upd R i none, a2, fun a ha => ?_, fun a ha hn => ?_⟩
        · by_cases hai : a = i
          · subst hai; exact .inl ⟨hq, upd_same ..⟩
          · unfold RQ
            rw [upd_ne _ _ hai]
            cases hg : getB s.sm a with
            | true => obtain ⟨r, e1, e2⟩ := (h1 a (by omega)).1 hg; exact .inr ⟨_, r, e2, e1⟩
            | false => obtain ⟨e1, e2⟩ := (h1 a (by omega)).2 hg; exact .inl ⟨e2, e1⟩
        · rw [upd_ne _ _ (by omega)]; exact (h2 a (by omega) hn).1
    | cons x r =>
      rw [hq] at r1
      obtain ⟨a1, a2⟩ := hS.one t R i x r hin hR r1
      have hm : asksM S cmpT s t i = (0, { s with hd := s.hd.set i x, sm := s.sm.set i true }, (S.ask t i).2) := by
        unfold asksM
        rw [if_neg (by rw [a1]; simp), if_neg (by rw [r3]; simp), a1]
      rw [if_neg (show ¬ ((x :: r) = [] ∧ en i ≠ 0) by simp), if_neg (show ¬ (asksM S cmpT s t i).1 ≠ 0 by rw [hm]; simp)]
      rw [hm]
      refine askAll_rel hS k _ _ (i + 1) (by omega) ⟨by simp [h.ok1], by simp [h.ok2], upd R i (some r), a2, fun j hj => ?_, fun j hj hjn => ?_⟩
      · by_cases hji : j = i
        · subst hji
          refine ⟨fun _ => ⟨r, upd_same .., ?_⟩, fun hb => ?_⟩
          · rw [getT_set (by rw [h.ok1]; exact hin), if_pos rfl]; exact hq
          · rw [getB_set (by rw [h.ok2]; exact hin), if_pos rfl] at hb; cases hb
        · rw [getB_set (by rw [h.ok2]; exact hin), if_neg hji, getT_set (by rw [h.ok1]; exact hin), if_neg hji, upd_ne _ _ hji]
          exact h1 j (by omega)
      · have hji : j ≠ i := by omega
        rw [getB_set (by rw [h.ok2]; exact hin), if_neg hji, upd_ne _ _ hji]
        exact h2 j (by omega) hjn
/-- the winner is the first of the least -/
theorem best_scan {n : Nat} {s : MS} {t : σ} {Q Q0 : Nat → List Thing} (h : Rel n St s t Q n Q0) (hb : Best cmpT n s) : (getB s.sm s.win = true → scan Q n = some s.win) ∧ (getB s.sm s.win = false → scan Q n = none) := by
  obtain ⟨R, hR, h1, _⟩ := h.ex
  obtain ⟨hw, hbest⟩ := hb
  have hQ : ∀ i, i < n → (getB s.sm i = true ↔ Q i ≠ []) := fun i hi => by
    cases hg : getB s.sm i with
    | true => obtain ⟨r, _, hr⟩ := (h1 i hi).1 hg; simp [hr]
    | false => simp [((h1 i hi).2 hg).2]
  have hK : ∀ i, i < n → getB s.sm i = true → hdK (Q i) = getT s.hd i := fun i hi hg => by
    obtain ⟨r, _, hr⟩ := (h1 i hi).1 hg; simp [hr, hdK]
  refine ⟨fun hg => ?_, fun hg => scan_none.2 fun i hi => ?_⟩
  · cases hs : scan Q n with
    | none => exact absurd (scan_none.1 hs _ hw) ((hQ _ hw).1 hg)
    | some b =>
      obtain ⟨hbn, hbq, hbl⟩ := scan_some hs
      have hgb := (hQ b hbn).2 hbq
      have hA := hbest b hbn
      obtain ⟨c1, c2⟩ := hbl s.win hw ((hQ _ hw).1 hg)
      rw [hK b hbn hgb, hK _ hw hg] at c1 c2
      rw [aheadT_eq, hgb, hg] at hA
      simp at hA
      obtain ⟨a1, a2⟩ := hA
      congr 1
      exact Nat.le_antisymm (c2 a1) (a2 c1)
  · have hA := hbest i hi
    unfold aheadM at hA
    rw [hg] at hA
    simp at hA
    exact ((h1 i hi).2 hA).2
end
end Go.Proofs.Ytfhojgammfkabaa.Rc

namespace Go.Proofs.Ytfhojgammfkabaa.Rc
open Go.Vw

/-- what the sources have yet to tell when all is told -/
def endM (n : Nat) (en : Nat → Int) (Q0 : Nat → List Thing) (R : Nat → Option (List Thing)) : Prop :=
  match firstE Q0 en n 0 with
  | some j => (∀ a, a ≤ j → RQ Q0 R a) ∧ ∀ a, j < a → a < n → R a = some (Q0 a)
  | none => ∀ a, a < n → RQ (runF n en (remQ Q0 n) Q0).2.2 R a
section
variable {σ : Type} {S : Srcs σ} {en : Nat → Int} {St : σ → (Nat → Option (List Thing)) → Prop}
/-- what a merge is about to tell: c: how much it has told -/
inductive Tell (S : Srcs σ) (en : Nat → Int) (St : σ → (Nat → Option (List Thing)) → Prop) (tot : Nat) (Fin : (Nat → Option (List Thing)) → Prop) : PM → σ → Nat → List Thing → Int → Prop
  | start {p : PM} {t : σ} {Q0 : Nat → List Thing} {out : List Thing} {err : Int} : p.1.bg = false → p.1.ov = false → p.1.e = 0 → p.1.win = 0 → Rel S.n St p.1 t Q0 0 Q0 → runM S.n en Q0 = (out, err) → remQ Q0 S.n = tot → (∀ R, endM S.n en Q0 R → Fin R) → Tell S en St tot Fin p t 0 out err
  | mid {p : PM} {t : σ} {Q Q0 : Nat → List Thing} {k : Nat} {x : Thing} {r : List Thing} {c : Nat} : p.1.bg = true → p.1.ov = false → p.1.e = 0 → 0 < S.n → Top cmpT S.n p.1 p.2 → p.2.length = max S.n 1 → ValidL S.n p.2 → Rel S.n St p.1 t Q S.n Q0 → getB p.1.sm p.1.win = true → Q p.1.win = x :: r →
      remQ (upd Q p.1.win r) S.n ≤ k → remQ Q S.n + c = tot + 1 → (∀ R, (∀ i, i < S.n → RQ (contF S.n en k Q p.1.win x r).2.2 R i) → Fin R) → Tell S en St tot Fin p t c (contF S.n en k Q p.1.win x r).1 (contF S.n en k Q p.1.win x r).2.1
  | over {p : PM} {t : σ} {err : Int} {c : Nat} : p.1.ov = true → p.1.bg = true → p.1.e = err → (∃ R, St t R ∧ Fin R) → Tell S en St tot Fin p t c [] err
theorem Rel.rq {n m : Nat} {s : MS} {t : σ} {Q Q0 : Nat → List Thing} (h : Rel n St s t Q n Q0) : ∃ R, St t R ∧ ∀ i, i < n → RQ Q R i := by
  obtain ⟨R, hR, h1, _⟩ := h.ex
  refine ⟨R, hR, fun i hi => ?_⟩
  cases hg : getB s.sm i with
  | true => obtain ⟨r, e1, e2⟩ := (h1 i hi).1 hg; exact .inr ⟨_, r, e2, e1⟩
  | false => obtain ⟨e1, e2⟩ := (h1 i hi).2 hg; exact .inl ⟨e2, e1⟩
theorem Rel.same {n m : Nat} {s s' : MS} {t : σ} {Q Q0 : Nat → List Thing} (h : Rel n St s t Q m Q0) (h1 : s'.hd = s.hd) (h2 : s'.sm = s.sm) : Rel n St s' t Q m Q0 :=
  ⟨h1 ▸ h.ok1, h2 ▸ h.ok2, by rw [h1, h2]; exact h.ex⟩
/-- behind the choice of the winner -/
theorem tell_pick {tot : Nat} {Fin : (Nat → Option (List Thing)) → Prop} {p : PM} {t : σ} {Q Q0 : Nat → List Thing} {k : Nat} {c : Nat} (hbg : p.1.bg = true) (hov : p.1.ov = false) (he : p.1.e = 0) (hn : 0 < S.n) (htop : Top cmpT S.n p.1 p.2) (hl : p.2.length = max S.n 1) (hv : ValidL S.n p.2)
    (hr : Rel S.n St p.1 t Q S.n Q0) (hk : remQ Q S.n ≤ k) (hc : remQ Q S.n + c = tot) (hF : ∀ R, (∀ i, i < S.n → RQ (runF S.n en k Q).2.2 R i) → Fin R) :
    (getB p.1.sm p.1.win = false → runF S.n en k Q = ([], 0, Q) ∧ ∃ R, St t R ∧ Fin R) ∧
    (getB p.1.sm p.1.win = true → ∃ out, (runF S.n en k Q).1 = getT p.1.hd p.1.win :: out ∧ Tell S en St tot Fin p t (c + 1) out (runF S.n en k Q).2.1) := by
  obtain ⟨b1, b2⟩ := best_scan hr (htop.best hn)
  refine ⟨fun hg => ?_, fun hg => ?_⟩
  · have h0 := runF_none (en := en) (k := k) (b2 hg)
    obtain ⟨R, hR, hq⟩ := hr.rq (m := 0)
    exact ⟨h0, R, hR, hF R (by rw [h0]; exact hq)⟩
  · obtain ⟨R, hR, h1, _⟩ := hr.ex
    have hw := (htop.best hn).1
    obtain ⟨r, e1, e2⟩ := (h1 _ hw).1 hg
    have hpos := remQ_pos (Q := Q) (b := p.1.win) (by rw [e2]; simp) S.n hw
    obtain ⟨k', rfl⟩ : ∃ k', k = k' + 1 := ⟨k - 1, by omega⟩
    have hrun := runF_some (en := en) (k := k') (b1 hg) e2
    have hrem := (remQ_upd e2 S.n).1 hw
    rw [hrun] at hF ⊢
    exact ⟨_, rfl, .mid hbg hov he hn htop hl hv hr hg e2 (by omega) (by omega) hF⟩
/-- what nextM answers, once the winner is chosen -/
theorem next_pick {tot : Nat} {Fin : (Nat → Option (List Thing)) → Prop} {p0 p : PM} {t0 t : σ} {Q Q0 : Nat → List Thing} {k : Nat} {c : Nat} (hov0 : p0.1.ov = false) (hq : qM S cmpT S.n p0 t0 = (0, p, t)) (hbg : p.1.bg = true) (hov : p.1.ov = false) (he : p.1.e = 0)
    (htop : 0 < S.n → Top cmpT S.n p.1 p.2) (hl : p.2.length = max S.n 1) (hv : ValidL S.n p.2) (hr : Rel S.n St p.1 t Q S.n Q0) (hk : remQ Q S.n ≤ k) (hc : remQ Q S.n + c = tot) (hF : ∀ R, (∀ i, i < S.n → RQ (runF S.n en k Q).2.2 R i) → Fin R) :
    (∀ x rest, (runF S.n en k Q).1 = x :: rest → (nextM S cmpT S.n p0 t0).1 = (x, true, 0) ∧ Tell S en St tot Fin (nextM S cmpT S.n p0 t0).2.1 (nextM S cmpT S.n p0 t0).2.2 (c + 1) rest (runF S.n en k Q).2.1 ∧ (nextM S cmpT S.n p0 t0).2.1.1.e = 0) ∧
    ((runF S.n en k Q).1 = [] → (nextM S cmpT S.n p0 t0).1 = ((0, [], []), false, (runF S.n en k Q).2.1) ∧ Tell S en St tot Fin (nextM S cmpT S.n p0 t0).2.1 (nextM S cmpT S.n p0 t0).2.2 c [] (runF S.n en k Q).2.1 ∧ (nextM S cmpT S.n p0 t0).2.1.1.ov = true) := by
  have hnx : nextM S cmpT S.n p0 t0 = if S.n = 0 ∨ getB p.1.sm p.1.win = false then (((0, [], []), false, 0), ({ p.1 with ov := true, e := 0 }, p.2), t) else ((getT p.1.hd p.1.win, true, 0), p, t) := by
    unfold nextM
    rw [if_neg (by rw [hov0]; decide), hq, if_neg (by simp)]
  rw [hnx]
  have hend : (runF S.n en k Q) = ([], 0, Q) → (S.n = 0 ∨ getB p.1.sm p.1.win = false) → (∃ R, St t R ∧ Fin R) →
      (∀ x rest, (runF S.n en k Q).1 = x :: rest → (if S.n = 0 ∨ getB p.1.sm p.1.win = false then (((0, [], []), false, 0), ({ p.1 with ov := true, e := 0 }, p.2), t) else ((getT p.1.hd p.1.win, true, 0), p, t) : (Thing × Bool × Int) × PM × σ).1 = (x, true, 0) ∧ Tell S en St tot Fin (if S.n = 0 ∨ getB p.1.sm p.1.win = false then (((0, [], []), false, 0), ({ p.1 with ov := true, e := 0 }, p.2), t) else ((getT p.1.hd p.1.win, true, 0), p, t) : (Thing × Bool × Int) × PM × σ).2.1 (if S.n = 0 ∨ getB p.1.sm p.1.win = false then (((0, [], []), false, 0), ({ p.1 with ov := true, e := 0 }, p.2), t) else ((getT p.1.hd p.1.win, true, 0), p, t) : (Thing × Bool × Int) × PM × σ).2.2 (c + 1) rest (runF S.n en k Q).2.1 ∧ (if S.n = 0 ∨ getB p.1.sm p.1.win = false then (((0, [], []), false, 0), ({ p.1 with ov := true, e := 0 }, p.2), t) else ((getT p.1.hd p.1.win, true, 0), p, t) : (Thing × Bool × Int) × PM × σ).2.1.1.e = 0) ∧
      ((runF S.n en k Q).1 = [] → (if S.n = 0 ∨ getB p.1.sm p.1.win = false then (((0, [], []), false, 0), ({ p.1 with ov := true, e := 0 }, p.2), t) else ((getT p.1.hd p.1.win, true, 0), p, t) : (Thing × Bool × Int) × PM × σ).1 = ((0, [], []), false, (runF S.n en k Q).2.1) ∧ Tell S en St tot Fin (if S.n = 0 ∨ getB p.1.sm p.1.win = false then (((0, [], []), false, 0), ({ p.1 with ov := true, e := 0 }, p.2), t) else ((getT p.1.hd p.1.win, true, 0), p, t) : (Thing × Bool × Int) × PM × σ).2.1 (if S.n = 0 ∨ getB p.1.sm p.1.win = false then (((0, [], []), false, 0), ({ p.1 with ov := true, e := 0 }, p.2), t) else ((getT p.1.hd p.1.win, true, 0), p, t) : (Thing × Bool × Int) × PM × σ).2.2 c [] (runF S.n en k Q).2.1 ∧ (if S.n = 0 ∨ getB p.1.sm p.1.win = false then (((0, [], []), false, 0), ({ p.1 with ov := true, e := 0 }, p.2), t) else ((getT p.1.hd p.1.win, true, 0), p, t) : (Thing × Bool × Int) × PM × σ).2.1.1.ov = true) := by
    intro h0 hc hR
    simp only [if_pos hc, h0]
    exact ⟨(fun x rest h => by cases h), fun _ => ⟨trivial, .over rfl hbg rfl hR, trivial⟩⟩
  by_cases hn : S.n = 0
  · have hk0 : runF S.n en k Q = ([], 0, Q) := runF_none (by rw [hn]; rfl)
    obtain ⟨R, hR, hq'⟩ := hr.rq (m := 0)
    exact hend hk0 (.inl hn) ⟨R, hR, hF R (by rw [hk0]; exact hq')⟩
  · obtain ⟨d1, d2⟩ := tell_pick (tot := tot) (Fin := Fin) (c := c) hbg hov he (by omega) (htop (by omega)) hl hv hr hk hc hF
    cases hg : getB p.1.sm p.1.win with
    | false =>
      obtain ⟨h0, hR⟩ := d1 hg
      rw [← hg]
      have := hend h0 (.inr hg) hR
      rw [hg] at this ⊢
      exact this
    | true =>
      obtain ⟨out, ho, hT⟩ := d2 hg
      have hneg : ¬ (S.n = 0 ∨ true = false) := by simp [hn]
      rw [if_neg hneg]
      refine ⟨fun x rest hx => ?_, fun hx => ?_⟩
      · rw [ho] at hx; cases hx; exact ⟨rfl, hT, he⟩
      · rw [ho] at hx; cases hx
theorem next_tell (hS : Lists S en St) {tot : Nat} {Fin : (Nat → Option (List Thing)) → Prop} {p : PM} {t : σ} {c : Nat} {out : List Thing} {err : Int} (h : Tell S en St tot Fin p t c out err) :
    (∀ x rest, out = x :: rest → (nextM S cmpT S.n p t).1 = (x, true, 0) ∧ Tell S en St tot Fin (nextM S cmpT S.n p t).2.1 (nextM S cmpT S.n p t).2.2 (c + 1) rest err ∧ (nextM S cmpT S.n p t).2.1.1.e = 0) ∧
    (out = [] → (nextM S cmpT S.n p t).1 = ((0, [], []), false, err) ∧ Tell S en St tot Fin (nextM S cmpT S.n p t).2.1 (nextM S cmpT S.n p t).2.2 c [] err ∧ (nextM S cmpT S.n p t).2.1.1.ov = true) := by
  -- an error of the sources ends it
  have bad : ∀ (err : Int) (e : Int) (q : PM) (t' : σ) (o : List Thing), p.1.ov = false → qM S cmpT S.n p t = (e, q, t') → e ≠ 0 → q.1.ov = true → q.1.bg = true → q.1.e = e → (∃ R, St t' R ∧ Fin R) → o = [] → err = e →
      (∀ x rest, o = x :: rest → (nextM S cmpT S.n p t).1 = (x, true, 0) ∧ Tell S en St tot Fin (nextM S cmpT S.n p t).2.1 (nextM S cmpT S.n p t).2.2 (c + 1) rest err ∧ (nextM S cmpT S.n p t).2.1.1.e = 0) ∧
      (o = [] → (nextM S cmpT S.n p t).1 = ((0, [], []), false, err) ∧ Tell S en St tot Fin (nextM S cmpT S.n p t).2.1 (nextM S cmpT S.n p t).2.2 c [] err ∧ (nextM S cmpT S.n p t).2.1.1.ov = true) := by
    rintro err e q t' o hov hq he hqov hqbg hqe hR rfl rfl
    have hnx : nextM S cmpT S.n p t = (((0, [], []), false, err), q, t') := by
      unfold nextM; rw [if_neg (by rw [hov]; decide), hq, if_pos he]
    rw [hnx]
    exact ⟨(fun x rest h => by cases h), fun _ => ⟨rfl, .over hqov hqbg hqe hR, hqov⟩⟩
  cases h with
  | over ho hbg he hR =>
    have hnx : nextM S cmpT S.n p t = (((0, [], []), false, p.1.e), p, t) := by unfold nextM; rw [if_pos ho]
    rw [hnx, he]
    exact ⟨(fun x rest h => by cases h), fun _ => ⟨rfl, .over ho hbg he hR, ho⟩⟩
  | start hbg hov he hwin hrel hrun htot hF =>
    rename_i Q0
    have hq : qM S cmpT S.n p t = beginM S cmpT S.n p.1 t := by unfold qM; rw [if_neg (by rw [hbg]; decide)]
    obtain ⟨k1, k2, k3, k4⟩ := beginM_keep (S := S) (t := t) (cmp := cmpT) (n := S.n) (s := p.1)
    obtain ⟨a1, a2⟩ := askAll_rel hS S.n { p.1 with bg := true } t 0 (by omega) (hrel.same (s' := { p.1 with bg := true }) rfl rfl)
    obtain ⟨c1, c2, c3, c4⟩ := askAllM_keep (S := S) (cmp := cmpT) S.n { p.1 with bg := true } t 0
    unfold runM at hrun
    unfold endM at hF
    cases hf : firstE Q0 en S.n 0 with
    | some j =>
      obtain ⟨e1, e2, R, hR, q1, q2⟩ := a1 j hf
      rw [hf] at hrun hF
      simp only at hrun hF
      have hne : (askAllM S cmpT S.n { p.1 with bg := true } t 0).1 ≠ 0 := by rw [e1]; exact e2
      have hb : beginM S cmpT S.n p.1 t = (en j, ((askAllM S cmpT S.n { p.1 with bg := true } t 0).2.1, []), (askAllM S cmpT S.n { p.1 with bg := true } t 0).2.2) := by
        unfold beginM; rw [if_pos hne, e1]
      cases hrun
      exact bad _ _ _ _ _ hov (hq.trans hb) e2 (c4 hne).1 c1 ((c4 hne).2.trans e1) ⟨R, hR, hF R ⟨q1, q2⟩⟩ rfl rfl
    | none =>
      obtain ⟨e1, e2⟩ := a2 hf
      rw [hf] at hrun hF
      simp only at hrun hF
      have hb : beginM S cmpT S.n p.1 t = (0, playAllM cmpT S.n S.n (askAllM S cmpT S.n { p.1 with bg := true } t 0).2.1 (List.replicate (max S.n 1) none) 0, (askAllM S cmpT S.n { p.1 with bg := true } t 0).2.2) := by
        unfold beginM; rw [if_neg (by rw [e1]; simp)]
      have hq2 := hq.trans hb
      generalize hs2 : (askAllM S cmpT S.n { p.1 with bg := true } t 0).2.1 = s2 at *
      generalize ht2 : (askAllM S cmpT S.n { p.1 with bg := true } t 0).2.2 = t2 at *
      obtain ⟨b1, b2, b3, b4, b5⟩ := playAllM_keep (cmp := cmpT) (n := S.n) S.n s2 (List.replicate (max S.n 1) none) 0
      have hv0 : ValidL S.n (List.replicate (max S.n 1) (none : Option Nat)) := fun k hk => by simp [List.mem_replicate] at hk
      have hlv : ∀ (k : Nat) (s : MS) (l : List (Option Nat)) (i : Nat), i + k = S.n → l.length = max S.n 1 → ValidL S.n l → (playAllM cmpT S.n k s l i).2.length = max S.n 1 ∧ ValidL S.n (playAllM cmpT S.n k s l i).2 := by
        intro k
        induction k with
        | zero => intro s l i _ h1 h2; exact ⟨h1, h2⟩
        | succ k ih =>
          intro s l i hk h1 h2
          rw [playAllM]
          have := playsM_len (cmp := cmpT) (s := s) (l := l) (i := i) (n := S.n) (by omega) h2 (by omega)
          exact ih _ _ _ (by omega) (this.1.trans h1) this.2
      obtain ⟨l1, l2⟩ := hlv S.n s2 _ 0 (by omega) (by simp) hv0
      have hnp := next_pick (c := 0) (tot := tot) (Fin := Fin) (k := remQ Q0 S.n) (en := en) (St := St) (Q := Q0) (Q0 := Q0) hov hq2 (b1.trans c1) (b2.trans ((c3 e1).1.trans hov)) (b3.trans ((c3 e1).2.trans he))
        (fun hn => playAllM_inv aheadT_asym S.n s2 _ 0 (by omega) hn (by simp; omega) hv0 ((Inv.init (fun p => by simp [getL, List.getElem?_replicate]; split <;> rfl)).of fun j _ => by simp))
        l1 l2 (e2.same b4 b5) (Nat.le_refl _) htot hF
      cases hrun
      exact hnp
  | mid hbg hov he hn htop hl hv hrel hg hqw hk hc hF =>
    rename_i Q Q0 k x r
    obtain ⟨R, hR, h1, _⟩ := hrel.ex
    have hw := (htop.best hn).1
    obtain ⟨r0, e1, e2⟩ := (h1 _ hw).1 hg
    rw [hqw] at e2; cases e2
    have hrem := (remQ_upd hqw S.n).1 hw
    -- the sources behind an asking of the winner
    have rq' : ∀ (Q' : Nat → List Thing) (R' : Nat → Option (List Thing)), RQ Q' R' p.1.win → (∀ i, i ≠ p.1.win → Q' i = Q i ∧ R' i = R i) → ∀ i, i < S.n → RQ Q' R' i := by
      intro Q' R' hw' ho i hi
      by_cases hiw : i = p.1.win
      · rw [hiw]; exact hw'
      · obtain ⟨o1, o2⟩ := ho i hiw
        unfold RQ
        rw [o1, o2]
        cases hgi : getB p.1.sm i with
        | true => obtain ⟨r, e1, e2⟩ := (h1 i hi).1 hgi; exact .inr ⟨_, r, e2, e1⟩
        | false => obtain ⟨e1, e2⟩ := (h1 i hi).2 hgi; exact .inl ⟨e2, e1⟩
    -- on, with another head of the winner
    have go : ∀ (hx : Thing) (sx : Bool) (t' : σ) (R' : Nat → Option (List Thing)), asksM S cmpT p.1 t p.1.win = (0, { p.1 with hd := p.1.hd.set p.1.win hx, sm := p.1.sm.set p.1.win sx }, t') → St t' R' → (∀ i, i ≠ p.1.win → R' i = R i) →
        ((sx = true → ∃ r', R' p.1.win = some r' ∧ r = hx :: r') ∧ (sx = false → R' p.1.win = none ∧ r = [])) → (∀ R, (∀ i, i < S.n → RQ (runF S.n en k (upd Q p.1.win r)).2.2 R i) → Fin R) →
        (∀ y rest, (runF S.n en k (upd Q p.1.win r)).1 = y :: rest → (nextM S cmpT S.n p t).1 = (y, true, 0) ∧ Tell S en St tot Fin (nextM S cmpT S.n p t).2.1 (nextM S cmpT S.n p t).2.2 (c + 1) rest (runF S.n en k (upd Q p.1.win r)).2.1 ∧ (nextM S cmpT S.n p t).2.1.1.e = 0) ∧
        ((runF S.n en k (upd Q p.1.win r)).1 = [] → (nextM S cmpT S.n p t).1 = ((0, [], []), false, (runF S.n en k (upd Q p.1.win r)).2.1) ∧ Tell S en St tot Fin (nextM S cmpT S.n p t).2.1 (nextM S cmpT S.n p t).2.2 c [] (runF S.n en k (upd Q p.1.win r)).2.1 ∧ (nextM S cmpT S.n p t).2.1.1.ov = true) := by
      intro hx sx t' R' hm hR' ho hsx hF'
      have hq : qM S cmpT S.n p t = (0, playsM cmpT S.n { p.1 with hd := p.1.hd.set p.1.win hx, sm := p.1.sm.set p.1.win sx } p.2 p.1.win, t') := by
        unfold qM; rw [if_pos hbg, hm, if_neg (by simp)]
      have hA : ∀ i j, i ≠ p.1.win → j ≠ p.1.win → aheadM cmpT { p.1 with hd := p.1.hd.set p.1.win hx, sm := p.1.sm.set p.1.win sx } i j = aheadM cmpT p.1 i j := by
        intro i j hi hj
        unfold aheadM
        simp only
        rw [getB_set (by rw [hrel.ok2]; exact hw), getB_set (by rw [hrel.ok2]; exact hw), getT_set (by rw [hrel.ok1]; exact hw), getT_set (by rw [hrel.ok1]; exact hw), if_neg hi, if_neg hj, if_neg hi, if_neg hj]
      have hinv := Ch.again hw htop hA
      obtain ⟨i1, i2⟩ := playsM_inv (aheadT_asym _) (by omega : S.n ≤ p.2.length) hinv hw (by simp)
      obtain ⟨b1, b2, b3, b4, b5⟩ := playsM_keep (cmp := cmpT) (n := S.n) (s := { p.1 with hd := p.1.hd.set p.1.win hx, sm := p.1.sm.set p.1.win sx }) (l := p.2) (i := p.1.win)
      obtain ⟨l1, l2⟩ := playsM_len (cmp := cmpT) (n := S.n) (s := { p.1 with hd := p.1.hd.set p.1.win hx, sm := p.1.sm.set p.1.win sx }) (l := p.2) hw hv (by omega)
      refine next_pick (c := c) (tot := tot) (Fin := Fin) (k := k) (en := en) (St := St) (Q := upd Q p.1.win r) (Q0 := Q0) hov hq (b1.trans hbg) (b2.trans hov) (b3.trans he) (fun _ => ?_) (l1.trans hl) l2 (Rel.same (s := { p.1 with hd := p.1.hd.set p.1.win hx, sm := p.1.sm.set p.1.win sx }) ?_ b4 b5) hk (by omega) hF'
      · unfold Top
        rw [aheadM_congr b4 b5]
        exact i2 fun j hj => by by_cases h : j = p.1.win <;> simp [h]
      · refine ⟨by simp [hrel.ok1], by simp [hrel.ok2], R', hR', fun i hi => ?_, fun i h1 h2 => by omega⟩
        by_cases hiw : i = p.1.win
        · subst hiw
          rw [getB_set (by rw [hrel.ok2]; exact hw), if_pos rfl, getT_set (by rw [hrel.ok1]; exact hw), if_pos rfl, upd_same]
          refine ⟨fun hb => ?_, fun hb => ?_⟩
          · obtain ⟨r', e1, e2⟩ := hsx.1 hb; exact ⟨r', e1, e2⟩
          · exact hsx.2 hb
        · rw [getB_set (by rw [hrel.ok2]; exact hw), if_neg hiw, getT_set (by rw [hrel.ok1]; exact hw), if_neg hiw, upd_ne _ _ hiw, ho i hiw]
          exact h1 i hi
    cases r with
    | nil =>
      obtain ⟨a1, a2⟩ := hS.nil t R _ hw hR e1
      by_cases hen : en p.1.win = 0
      · have hm : asksM S cmpT p.1 t p.1.win = (0, { p.1 with hd := p.1.hd.set p.1.win (S.ask t p.1.win).1.1, sm := p.1.sm.set p.1.win false }, (S.ask t p.1.win).2) := by
          unfold asksM
          rw [a1]
          simp only
          rw [if_neg (by simpa using hen), if_neg (by simp)]
        have hcf : contF S.n en k Q p.1.win (getT p.1.hd p.1.win) [] = runF S.n en k (upd Q p.1.win []) := by unfold contF; simp [hen]
        rw [hcf] at hF ⊢
        exact go _ _ _ _ hm a2 (fun i hi => upd_ne _ _ hi) ⟨(fun h => by cases h), fun _ => ⟨upd_same .., rfl⟩⟩ hF
      · have hm : asksM S cmpT p.1 t p.1.win = (en p.1.win, { p.1 with ov := true, e := en p.1.win }, (S.ask t p.1.win).2) := by
          unfold asksM
          rw [a1]
          simp only
          rw [if_pos (by simpa using hen)]
        have hq : qM S cmpT S.n p t = (en p.1.win, ({ p.1 with ov := true, e := en p.1.win }, p.2), (S.ask t p.1.win).2) := by
          unfold qM; rw [if_pos hbg, hm, if_pos hen]
        have hcf : contF S.n en k Q p.1.win (getT p.1.hd p.1.win) [] = ([], en p.1.win, upd Q p.1.win []) := by unfold contF; simp [hen]
        rw [hcf] at hF ⊢
        exact bad _ _ _ _ _ hov hq hen rfl hbg rfl ⟨_, a2, hF _ (rq' _ _ (.inl ⟨upd_same .., upd_same ..⟩) fun i hi => ⟨upd_ne _ _ hi, upd_ne _ _ hi⟩)⟩ rfl rfl
    | cons y r =>
      obtain ⟨a1, a2⟩ := hS.one t R _ y r hw hR e1
      by_cases hlt : bf y (getT p.1.hd p.1.win) = true
      · have hm : asksM S cmpT p.1 t p.1.win = (61, { p.1 with ov := true, e := 61 }, (S.ask t p.1.win).2) := by
          unfold asksM
          rw [a1]
          simp only
          rw [if_neg (by simp), if_pos (by simp only [cmpT_lt, hg, hlt]; rfl)]
        have hq : qM S cmpT S.n p t = (61, ({ p.1 with ov := true, e := 61 }, p.2), (S.ask t p.1.win).2) := by
          unfold qM; rw [if_pos hbg, hm, if_pos (by simp)]
        have hcf : contF S.n en k Q p.1.win (getT p.1.hd p.1.win) (y :: r) = ([], 61, upd Q p.1.win (y :: r)) := by unfold contF; simp [hlt]
        rw [hcf] at hF ⊢
        exact bad _ _ _ _ _ hov hq (by decide) rfl hbg rfl ⟨_, a2, hF _ (rq' _ _ (.inr ⟨y, r, upd_same .., upd_same ..⟩) fun i hi => ⟨upd_ne _ _ hi, upd_ne _ _ hi⟩)⟩ rfl rfl
      · have hm : asksM S cmpT p.1 t p.1.win = (0, { p.1 with hd := p.1.hd.set p.1.win y, sm := p.1.sm.set p.1.win true }, (S.ask t p.1.win).2) := by
          unfold asksM
          rw [a1]
          simp only
          rw [if_neg (by simp), if_neg]
          simp only [cmpT_lt, hg]
          simpa using hlt
        have hcf : contF S.n en k Q p.1.win (getT p.1.hd p.1.win) (y :: r) = runF S.n en k (upd Q p.1.win (y :: r)) := by unfold contF; simp [hlt]
        rw [hcf] at hF ⊢
        exact go _ _ _ _ hm a2 (fun i hi => upd_ne _ _ hi) ⟨fun _ => ⟨r, upd_same .., rfl⟩, (fun h => by cases h)⟩ hF
end
end Go.Proofs.Ytfhojgammfkabaa.Rc

namespace Go.Proofs.Ytfhojgammfkabaa.Rc
open Go.Vw

/-- a known block that has just been made -/
def s0 (n : Nat) : MS := ⟨List.replicate n (0, [], []), List.replicate n false, 0, false, false, 0⟩
/-- the functions are looked at -/
theorem new_big {w : World} {cv : Value} {s : Sl} {vs : List Value} (hcv : isFn cv) (hr : RdS w EF s vs) (hf : ∀ v ∈ vs, isFn v) (hlen : vs.length ≤ 1152921504606846976) (hbig : 64 < vs.length) {K : PA → Int → World → Prop} (hK : K none 3 w) :
    callK Try.prog 51 [.leaf (.val cv), .leaf (.sl s)] w (.tup [.leaf .ptr, .leaf (.int .i64)]) K := by
  refine go_merge_New_api_Record _ _ _ _ ?_
  unfold S_merge_New_api_Record
  refine nilF_fn hcv (ifK_f rfl (join0 (fun w' => w' = w) (fun k hk => new_loop hr hf hlen (hk _ rfl)) fun w' hw' => ?_))
  rw [hw']
  exact ifK_t (by rw [hr.len]; simp; omega) hK
/-- what New has made -/
structure Made (y : Ly) (cv : Value) (vs : List Value) : Prop where
  cv : y.cv = cv
  n : y.n = vs.length
  p : y.fr.p = some (y.bf, 0)
  len : y.fr.len = vs.length
  cap : vs.length ≤ y.fr.cap
  cf : ∀ i, i < vs.length → y.cf[i]? = vs[i]?
  lo : y.lo = ⟨none, 0, 0⟩
theorem new_ok {w : World} {cv : Value} {s : Sl} {vs : List Value} (hcv : isFn cv) (hr : RdS w EF s vs) (hf : ∀ v ∈ vs, isFn v) (hlen : vs.length ≤ 64) {K : PA → Int → World → Prop}
    (hK : ∀ w' y, At w (fun _ => False) (y.m (s0 vs.length) []) w' → Made y cv vs → K (some (y.b, 0)) 0 w') :
    callK Try.prog 51 [.leaf (.val cv), .leaf (.sl s)] w (.tup [.leaf .ptr, .leaf (.int .i64)]) K := by
  refine go_merge_New_api_Record _ _ _ _ ?_
  unfold S_merge_New_api_Record
  refine nilF_fn hcv (ifK_f rfl (join0 (fun w' => w' = w) (fun k hk => new_loop hr hf (by omega) (hk _ rfl)) fun w' hw' => ?_))
  rw [hw']
  refine ifK_f (by rw [hr.len]; simp; omega) ?_
  refine (At.init _ fun _ => False).alK fun b13 w1 hb13 h1 M1 => ?_
  have hv1 : Vec w1 EF ⟨some (b13, 0), 0, 0⟩ [] := ⟨rfl, .inr ⟨b13, [], rfl, h1.blk (i := 0) rfl, rfl⟩⟩
  refine hv1.app (hr.keep M1 fun _ _ => id) rfl rfl (by simp; omega) fun a15 w2 hv2 hbk M2 hwh => ?_
  have hA2 : At w (fun _ => False) [] w2 := ((h1.sub (List.nil_sublist _)).keep M2 (fun b hb hk => by
    obtain ⟨o, hk⟩ := hk; cases hk; rw [hb13] at hb; exact absurd hb (Nat.lt_irrefl _)) (by simp))
  have hbf : ∃ bf rest, a15.p = some (bf, 0) ∧ Blk w2 bf (EF.cells vs ++ rest) := by
    rcases hv2.own with ⟨hp, hcap, hl⟩ | ⟨b, rest, hp, hb, _⟩
    · rcases hwh with ⟨h, _⟩ | ⟨⟨b, h, _⟩, _⟩
      · rw [hp] at h; cases h
      · rw [hp] at h; cases h
    · exact ⟨b, rest, hp, by simpa using hb⟩
  obtain ⟨bf, rest, hp, hbf⟩ := hbf
  have hbfs : w.heap.size ≤ bf := by
    rcases hbk bf ⟨0, hp⟩ with ⟨o, h⟩ | h
    · cases h; rw [hb13]; exact Nat.le_refl _
    · have := M1.size; omega
  have hA3 := hA2.add hbf (by simp) (fun h => by omega)
  refine ⟨fun x hx => by simp at hx; subst hx; exact hcv.cell, fun x hx => by simp at hx; subst hx; exact hcv.cell, ?_⟩
  refine hA3.alK fun b17 w3 hb17 h3 M3 => ?_
  have hlen2 : a15.len = vs.length := by rw [hv2.len]; simp
  have h3 : At w (fun _ => False) [(bf, EF.cells vs ++ rest), (b17, [cv, (LV.sl a15).toV, (LV.sl ⟨none, 0, 0⟩).toV, (LV.sl ⟨none, 0, 0⟩).toV, (LV.sl ⟨none, 0, 0⟩).toV, .int .i64 0, .bool false, .bool false, .int .i64 0])] w3 := h3
  let mm (hs so : Sl) : List Value := [cv, (LV.sl a15).toV, (LV.sl hs).toV, (LV.sl so).toV, (LV.sl ⟨none, 0, 0⟩).toV, .int .i64 0, .bool false, .bool false, .int .i64 0]
  let n := vs.length
  have hs1 : ((s.len : Int)) = ((n : Nat) : Int) := by rw [hr.len]
  refine join0 (fun w' => ∃ bh bs, At w (fun _ => False) [(bf, EF.cells vs ++ rest), (b17, mm ⟨some (bh, 0), n, n⟩ ⟨some (bs, 0), n, n⟩), (bh, ET.cells (List.replicate n (0, [], []))), (bs, EB.cells (List.replicate n false))] w') (fun k hk => ?_) ?_
  · refine ⟨fun b => b = b17, ?_⟩
    have h4 := h3.drew
    have m1 : ∀ {a b c : World}, Mod (fun _ => False) a b → Mod (fun x => x = b17) b c → Mod (fun x => x = b17) a c := fun h h' => h.trans h' (fun _ _ h => h.elim) fun _ _ h => h
    have m2 : ∀ {a b c : World}, Mod (fun x => x = b17) a b → Mod (fun x => x = b17) b c → Mod (fun x => x = b17) a c := fun h h' => h.trans h' (fun _ _ h => h) fun _ _ h => h
    have m0 : ∀ {a b : World}, Mod (fun _ => False) a b → Mod (fun x => x = b17) a b := fun h => h.mono fun _ _ h => h.elim
    refine ⟨?_, ?_⟩
    · refine Vec.mkK ET (0, [], []) n hs1 rfl (by show vs.length < _; omega) (by show _ * vs.length ≤ _; omega) fun w5 _ hb5 M5 => ⟨m0 M5, dr_some ⟨?_, ?_⟩⟩
      · have h5 := h4.mkAdd M5 hb5 (Nat.le_refl _)
        refine Vec.mkK EB false n hs1 rfl (by show vs.length < _; omega) (by show _ * vs.length ≤ _; omega) fun w6 _ hb6 M6 => ⟨m0 (M5.trans M6 (fun _ _ h => h) fun _ _ h => h), ?_⟩
        have h6 := h5.mkAdd M6 hb6 (Nat.le_refl _)
        have M56 := m0 (M5.trans M6 (fun _ _ h => h) fun _ _ h => h)
        refine h6.st 1 rfl (show (3 : Nat) ≤ 9 by decide) fun w7 h7 M7 => ⟨m2 M56 M7, dr_some (h7.st 1 rfl (show (4 : Nat) ≤ 9 by decide) fun w8 h8 M8 => hk _ ⟨_, _, h8⟩)⟩
      · have h5 := h4.mkAdd M5 hb5 (Nat.le_refl _)
        refine h5.st 1 rfl (show (3 : Nat) ≤ 9 by decide) fun w7 h7 M7 => ⟨m1 M5 M7, ?_⟩
        refine Vec.mkK EB false n hs1 rfl (by show vs.length < _; omega) (by show _ * vs.length ≤ _; omega) fun w6 _ hb6 M6 => ⟨m2 (m1 M5 M7) (m0 M6), ?_⟩
        have h6 := h7.mkAdd M6 hb6 (Nat.le_refl _)
        refine dr_some (h6.st 1 rfl (show (4 : Nat) ≤ 9 by decide) fun w8 h8 M8 => hk _ ⟨_, _, h8⟩)
    · refine Vec.mkK EB false n hs1 rfl (by show vs.length < _; omega) (by show _ * vs.length ≤ _; omega) fun w5 _ hb5 M5 => ⟨m0 M5, ?_⟩
      have h5 := h4.mkAdd M5 hb5 (Nat.le_refl _)
      refine Vec.mkK ET (0, [], []) n hs1 rfl (by show vs.length < _; omega) (by show _ * vs.length ≤ _; omega) fun w6 _ hb6 M6 => ⟨m0 (M5.trans M6 (fun _ _ h => h) fun _ _ h => h), ?_⟩
      have h6 := h5.mkAdd M6 hb6 (Nat.le_refl _)
      have M56 := m0 (M5.trans M6 (fun _ _ h => h) fun _ _ h => h)
      refine dr_some (h6.st 1 rfl (show (3 : Nat) ≤ 9 by decide) fun w7 h7 M7 => ⟨m2 M56 M7, dr_some (h7.st 1 rfl (show (4 : Nat) ≤ 9 by decide) fun w8 h8 M8 => hk _ ⟨w5.heap.size, w3.drew.heap.size, h8.perm ?_⟩)⟩)
      exact .cons _ (.cons _ (List.Perm.swap _ _ _))
  · rintro w4 ⟨bh, bs, h4⟩
    let y : Ly := ⟨b17, bf, bh, bs, cv, a15, EF.cells vs ++ rest, n, ⟨none, 0, 0⟩⟩
    refine hK w4 y (h4.perm (List.Perm.swap _ _ _)) ⟨rfl, rfl, hp, hlen2, by have := hv2.rd.has; rw [hlen2] at this; exact this, fun i hi => ?_, rfl⟩
    show (EF.cells vs ++ rest)[i]? = _
    have hi1 : i * EF.n + 0 = i := by simp [EF]
    have := EF.cells_get vs i 0 (by decide)
    rw [hi1] at this
    rw [List.getElem?_append_left (by rw [EF.cells_length]; simpa [EF] using hi), this, List.getElem?_eq_getElem hi]
    simp [EF_f (hf _ (List.getElem_mem hi))]
end Go.Proofs.Ytfhojgammfkabaa.Rc

