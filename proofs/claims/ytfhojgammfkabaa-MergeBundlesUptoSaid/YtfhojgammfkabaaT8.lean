/- MergeBundles: told plainly; a loop over four variables; a part of a slice. -/
import Derived.Test.YtfhojgammfkabaaT7
namespace Go.Proofs.Ytfhojgammfkabaa
open Go.Vw

def mu4 (k1 k2 k3 k4 : Kd) (μ : Den k1 → Den k2 → Den k3 → Den k4 → World → Nat) : List LV → World → Nat
  | [y1, y2, y3, y4], w => match y1.as k1, y2.as k2, y3.as k3, y4.as k4 with
    | some x1, some x2, some x3, some x4 => μ x1 x2 x3 x4 w
    | _, _, _, _ => 0
  | _, _ => 0
theorem loop4 {k1 k2 k3 k4 : Kd} {B : Den k1 → Den k2 → Den k3 → Den k4 → World → (Den k1 → Den k2 → Den k3 → Den k4 → World → Prop) → Prop} {y1 y2 y3 y4 : LV} {w : World} (I : Den k1 → Den k2 → Den k3 → Den k4 → World → Prop) (μ : Den k1 → Den k2 → Den k3 → Den k4 → World → Nat) {x1 : Den k1} {x2 : Den k2} {x3 : Den k3} {x4 : Den k4} (hy1 : y1.as k1 = some x1) (hy2 : y2.as k2 = some x2) (hy3 : y3.as k3 = some x3) (hy4 : y4.as k4 = some x4) (h0 : I x1 x2 x3 x4 w)
    (hs : ∀ x1 x2 x3 x4 w, I x1 x2 x3 x4 w → B x1 x2 x3 x4 w fun x1' x2' x3' x4' w' => I x1' x2' x3' x4' w' ∧ μ x1' x2' x3' x4' w' < μ x1 x2 x3 x4 w) : loopL [k1, k2, k3, k4] B [y1, y2, y3, y4] w :=
  ⟨fun l w => ∃ y1 x1 y2 x2 y3 x3 y4 x4, l = [y1, y2, y3, y4] ∧ y1.as k1 = some x1 ∧ y2.as k2 = some x2 ∧ y3.as k3 = some x3 ∧ y4.as k4 = some x4 ∧ I x1 x2 x3 x4 w, mu4 k1 k2 k3 k4 μ, ⟨y1, x1, y2, x2, y3, x3, y4, x4, rfl, hy1, hy2, hy3, hy4, h0⟩, fun l w hI => by
    obtain ⟨y1, x1, y2, x2, y3, x3, y4, x4, rfl, hx1, hx2, hx3, hx4, hI⟩ := hI
    have := hs x1 x2 x3 x4 w hI
    simp only [app, lam, hx1, hx2, hx3, hx4]
    have he : (fun (a : Den k1) (b : Den k2) (c : Den k3) (d : Den k4) (w' : World) => (∃ y1 x1 y2 x2 y3 x3 y4 x4, [LV.mk k1 a, LV.mk k2 b, LV.mk k3 c, LV.mk k4 d] = [y1, y2, y3, y4] ∧ y1.as k1 = some x1 ∧ y2.as k2 = some x2 ∧ y3.as k3 = some x3 ∧ y4.as k4 = some x4 ∧ I x1 x2 x3 x4 w') ∧ mu4 k1 k2 k3 k4 μ [LV.mk k1 a, LV.mk k2 b, LV.mk k3 c, LV.mk k4 d] w' < mu4 k1 k2 k3 k4 μ [y1, y2, y3, y4] w) = fun a b c d w' => I a b c d w' ∧ μ a b c d w' < μ x1 x2 x3 x4 w := by
      funext a b c d w'
      simp only [mu4, LV.as_mk, hx1, hx2, hx3, hx4, eq_iff_iff]
      constructor
      · rintro ⟨⟨y1, x1, y2, x2, y3, x3, y4, x4, h1, h2, h3, h4, h5, h6⟩, h7⟩
        cases h1
        rw [LV.as_mk] at h2 h3 h4 h5; cases h2; cases h3; cases h4; cases h5
        exact ⟨h6, h7⟩
      · rintro ⟨h1, h2⟩; exact ⟨⟨_, a, _, b, _, c, _, d, rfl, LV.as_mk k1 a, LV.as_mk k2 b, LV.as_mk k3 c, LV.as_mk k4 d, h1⟩, h2⟩
    rw [he]; exact this⟩
/-- a part of a slice that is read -/
theorem _root_.Go.Vw.RdS.part {α : Type} {w : World} {E : Enc α} {s : Sl} {l : List α} (h : RdS w E s l) {lo hi : Nat} (h1 : lo ≤ hi) (h2 : hi ≤ l.length) : RdS w E (s.cut E.n lo hi s.cap) ((l.drop lo).take (hi - lo)) := by
  have hlen := h.len
  have hhas := h.has
  refine ⟨by simp [Sl.cut]; omega, ?_, by simp [Sl.cut]; omega⟩
  by_cases hc : s.cap = lo
  · left
    have : hi - lo = 0 := by omega
    rw [this, List.take_zero]; rfl
  · have e : (s.cut E.n lo hi s.cap).p = s.p.map fun a => (a.1, a.2 + lo * E.n) := by unfold Sl.cut; simp [hc]
    rw [e]
    rcases h.rd with h0 | ⟨b, o, hp, hr⟩
    · have hl0 : l = [] := by
        cases l with
        | nil => rfl
        | cons x t =>
          have := congrArg List.length h0
          rw [E.cells_length, List.length_nil] at this
          have hpos := E.pos
          rcases Nat.mul_eq_zero.1 this with h | h
          · cases h
          · omega
      subst hl0
      left; simp [Enc.cells]
    · refine .inr ⟨b, o + lo * E.n, by rw [hp]; rfl, fun i hi' => ?_⟩
      have s1 : E.cells l = E.cells (l.take lo) ++ (E.cells ((l.drop lo).take (hi - lo)) ++ E.cells ((l.drop lo).drop (hi - lo))) := by
        rw [← E.cells_append, List.take_append_drop, ← E.cells_append, List.take_append_drop]
      have s2 : (E.cells (l.take lo)).length = lo * E.n := by rw [E.cells_length]; simp; rw [Nat.min_eq_left (by omega)]
      have s3 : (E.cells l)[lo * E.n + i]? = (E.cells ((l.drop lo).take (hi - lo)))[i]? := by
        rw [s1, List.getElem?_append_right (by omega), s2, Nat.add_sub_cancel_left, List.getElem?_append_left hi']
      rw [← s3, Nat.add_assoc]
      refine hr _ ?_
      have := congrArg List.length s1
      simp only [List.length_append, s2] at this
      omega
theorem _root_.Go.Vw.RdS.slxPart {α : Type} {w : World} {E : Enc α} {s : Sl} {l : List α} (h : RdS w E s l) {lo hi : Nat} (h1 : lo ≤ hi) (h2 : hi ≤ l.length) {K : Sl → Prop} (hK : K (s.cut E.n lo hi s.cap)) : Go.Vw.slx s E.n (some (lo : Int)) (some (hi : Int)) none K :=
  ⟨lo, hi, s.cap, rfl, rfl, rfl, h1, by have := h.has; have := h.len; omega, Nat.le_refl _, hK⟩
/-- some of the sources -/
def subL {α : Type} (l : List α) (lo hi : Nat) : List α := (l.drop lo).take (hi - lo)
theorem subL_get {α : Type} {l : List α} {lo hi i : Nat} (h : i < hi - lo) : (subL l lo hi)[i]? = l[lo + i]? := by
  unfold subL
  rw [List.getElem?_take_of_lt h, List.getElem?_drop]
theorem subL_length {α : Type} {l : List α} {lo hi : Nat} (h2 : hi ≤ l.length) : (subL l lo hi).length = hi - lo := by
  unfold subL
  simp; omega
theorem LQ_sub {Ts : List (List Thing)} {lo hi i : Nat} (h : i < hi - lo) : LQ (subL Ts lo hi) i = LQ Ts (lo + i) := by
  unfold LQ; rw [subL_get h]
theorem cat_sub {Ts : List (List Thing)} {lo hi : Nat} : ∀ m, m ≤ hi - lo → cat (LQ Ts) lo ++ cat (LQ (subL Ts lo hi)) m = cat (LQ Ts) (lo + m)
  | 0, _ => by simp [cat]
  | m + 1, h => by rw [cat, ← List.append_assoc, cat_sub m (by omega), LQ_sub (by omega)]; rfl
theorem sub_sorted {Ts : List (List Thing)} {n lo hi : Nat} (h : Sorted n (LQ Ts)) (h2 : hi ≤ n) : Sorted (hi - lo) (LQ (subL Ts lo hi)) :=
  ⟨fun i hi' => by rw [LQ_sub hi']; exact h.each _ (by omega), fun i j hij hj x hx y hy => by rw [LQ_sub (by omega)] at hx; rw [LQ_sub hj] at hy; exact h.rise _ _ (by omega) (by omega) x hx y hy⟩
theorem sub_rem {Ts : List (List Thing)} {lo hi n : Nat} (h1 : lo ≤ hi) (h2 : hi ≤ n) : remQ (LQ (subL Ts lo hi)) (hi - lo) ≤ remQ (LQ Ts) n := by
  have e := congrArg List.length (cat_sub (Ts := Ts) (lo := lo) (hi := hi) (hi - lo) (Nat.le_refl _))
  rw [List.length_append, cat_length, cat_length, cat_length] at e
  have hm : ∀ a b, a ≤ b → remQ (LQ Ts) a ≤ remQ (LQ Ts) b := by
    intro a b hab
    induction b with
    | zero => have : a = 0 := by omega
              subst this; exact Nat.le_refl _
    | succ b ih =>
      by_cases e : a = b + 1
      · subst e; exact Nat.le_refl _
      · have := ih (by omega); rw [remQ]; omega
  have := hm (lo + (hi - lo)) n (by omega)
  omega
/-- what bundles tell, so far: of the sources below 'at' -/
structure Outs (Ts : List (List Thing)) (n at_ : Nat) (Ls : List (List Thing)) : Prop where
  each : ∀ i, i < Ls.length → (LQ Ls i).Pairwise ltT
  rise : ∀ i j, i < j → j < Ls.length → ∀ x ∈ LQ Ls i, ∀ y ∈ LQ Ls j, x.2 < y.2
  perm : (cat (LQ Ls) Ls.length).Perm (cat (LQ Ts) at_)
theorem LQ_app_lt {Ls : List (List Thing)} {L : List Thing} {i : Nat} (h : i < Ls.length) : LQ (Ls ++ [L]) i = LQ Ls i := by unfold LQ; rw [List.getElem?_append_left h]
theorem LQ_app_eq {Ls : List (List Thing)} {L : List Thing} : LQ (Ls ++ [L]) Ls.length = L := by unfold LQ; simp
theorem cat_app {Ls : List (List Thing)} {L : List Thing} : ∀ m, m ≤ Ls.length → cat (LQ (Ls ++ [L])) m = cat (LQ Ls) m
  | 0, _ => rfl
  | m + 1, h => by rw [cat, cat, cat_app m (by omega), LQ_app_lt (by omega)]
theorem Outs.next {Ts : List (List Thing)} {n lo hi : Nat} {Ls : List (List Thing)} (h : Outs Ts n lo Ls) (hS : Sorted n (LQ Ts)) (h1 : lo ≤ hi) (h2 : hi ≤ n) : Outs Ts n hi (Ls ++ [(runM (hi - lo) (fun _ => 0) (LQ (subL Ts lo hi))).1]) := by
  obtain ⟨_, r2, r3⟩ := runM_sorted (sub_sorted (lo := lo) hS h2)
  generalize (runM (hi - lo) (fun _ => 0) (LQ (subL Ts lo hi))).1 = L at r2 r3
  refine ⟨fun i hi' => ?_, fun i j hij hj x hx y hy => ?_, ?_⟩
  · by_cases e : i < Ls.length
    · rw [LQ_app_lt e]; exact h.each i e
    · have : i = Ls.length := by simp at hi'; omega
      subst this; rw [LQ_app_eq]; exact r2
  · by_cases e : j < Ls.length
    · rw [LQ_app_lt e] at hy; rw [LQ_app_lt (by omega)] at hx
      exact h.rise i j hij e x hx y hy
    · have : j = Ls.length := by simp at hj; omega
      subst this
      rw [LQ_app_eq] at hy; rw [LQ_app_lt hij] at hx
      obtain ⟨a, ha, hxa⟩ := mem_cat.1 (h.perm.mem_iff.1 (mem_cat.2 ⟨i, hij, hx⟩))
      obtain ⟨b, hb, hyb⟩ := mem_cat.1 (r3.mem_iff.1 hy)
      rw [LQ_sub hb] at hyb
      exact hS.rise a (lo + b) (by omega) (by omega) x hxa y hyb
  · rw [List.length_append, List.length_singleton, cat, cat_app _ (Nat.le_refl _), LQ_app_eq]
    have := cat_sub (Ts := Ts) (lo := lo) (hi := hi) (hi - lo) (Nat.le_refl _)
    rw [show lo + (hi - lo) = hi by omega] at this
    rw [← this]
    exact h.perm.append r3
end Go.Proofs.Ytfhojgammfkabaa
