/- A merge of things: plays. -/
import Derived.Test.YtfhojgammfkabaaM1
namespace Go.Proofs.Ytfhojgammfkabaa
open Go.Vw

def loV : Option Nat → Int
  | none => -1
  | some k => k
def EL : Enc (Option Nat) := ⟨1, fun x => [.int .i64 (loV x)], fun _ => rfl, by decide, fun x v h => by simp at h; subst h; rfl⟩
def getL (l : List (Option Nat)) (i : Nat) : Option Nat := l[i]?.getD none
theorem getL_at {l : List (Option Nat)} {i : Nat} (h : i < l.length) : l[i]? = some (getL l i) := by simp [getL, h]
/-- a source goes up the tree -/
def playsL (cmp : Thing → Thing → Int) (s : MS) (lost : List (Option Nat)) (i at_ : Nat) : List (Option Nat) × Option Nat :=
  if h : at_ = 0 then (lost, some i) else
    match getL lost at_ with
    | none => (lost.set at_ (some i), none)
    | some o => if aheadM cmp s o i then playsL cmp s (lost.set at_ (some i)) o (at_ / 2) else playsL cmp s lost i (at_ / 2)
termination_by at_
decreasing_by all_goals omega
def playsM (cmp : Thing → Thing → Int) (n : Nat) (s : MS) (lost : List (Option Nat)) (i : Nat) : MS × List (Option Nat) :=
  match playsL cmp s lost i ((i + n) / 2) with
  | (l, some j) => ({ s with win := j }, l)
  | (l, none) => (s, l)
def ValidL (n : Nat) (l : List (Option Nat)) : Prop := ∀ k, some k ∈ l → k < n
theorem ValidL.set {n : Nat} {l : List (Option Nat)} (h : ValidL n l) {i k : Nat} (hk : k < n) : ValidL n (l.set i (some k)) := fun j hj => by
  rcases List.mem_or_eq_of_mem_set hj with hj | hj
  · exact h j hj
  · cases hj; exact hk
theorem ValidL.get {n : Nat} {l : List (Option Nat)} (h : ValidL n l) {i k : Nat} (hi : i < l.length) (hk : getL l i = some k) : k < n := h k (hk ▸ List.mem_of_getElem? (getL_at hi))
section
variable {σ : Type} {S : Srcs σ} {w0 w : World} {D : Nat → Prop} {y : Ly} {s : MS} {r : List (Nat × List Value)} {t : σ} {F : Nat → Prop}
theorem MI.ldL {bl : Nat} {lost : List (Option Nat)} (h : MI S w0 D y s ((bl, EL.cells lost) :: r) t F w) {i : Nat} (hi : i < lost.length) : w.cell? ⟨bl, 0 + (i : Int).toNat * 1, none⟩ = some (LV.mk (.int .i64) (loV (getL lost i))).toV := by
  rw [(h.at_.blk (i := 4) rfl).cell, Nat.zero_add]
  have := EL.cells_get lost i 0 (by decide)
  rw [Nat.add_zero] at this
  refine this.trans ?_
  rw [getL_at hi]; rfl
theorem MI.setL {bl : Nat} {lost : List (Option Nat)} (h : MI S w0 D y s ((bl, EL.cells lost) :: r) t F w) {i : Nat} (hi : i < lost.length) (x : Option Nat) {K : World → Prop}
    (hK : ∀ w', MI S w0 D y s ((bl, EL.cells (lost.set i x)) :: r) t F w' → Mod (fun k => k = bl) w w' → K w') : Go.Vw.st w bl (0 + (i : Int).toNat * 1) [.int .i64 (loV x)] K := by
  have hset := EL.cells_set lost i 0 [.int .i64 (loV x)] (getL lost i) x [] (getL_at hi) (Nat.le_refl 1) rfl
  simp only [List.append_nil, Nat.add_zero] at hset
  refine h.st4 ?_ fun w' h' M' => hK w' ?_ M'
  · rw [EL.cells_length]; simp [EL]; omega
  · rw [Nat.zero_add] at h'
    have hset' : spl (EL.cells lost) ((i : Int).toNat * 1) (List.map LV.toV [.int .i64 (loV x)]) = EL.cells (lost.set i x) := hset
    rw [hset'] at h'; exact h'
theorem plays_ok (hy : Of S y) {cmp : Thing → Thing → Int} (hc : CmpOk y.cv cmp) {bl L : Nat} (hlo : y.lo = ⟨some (bl, 0), L, L⟩) (hn : y.n ≤ 64) {lost : List (Option Nat)} (hL : lost.length = L) (hnL : y.n ≤ L) (hL64 : L ≤ 64) (hv : ValidL y.n lost)
    (h : MI S w0 D y s ((bl, EL.cells lost) :: r) t F w) {i : Nat} (hi : i < y.n) {K : World → Prop}
    (hK : ∀ w', MI S w0 D y (playsM cmp y.n s lost i).1 ((bl, EL.cells (playsM cmp y.n s lost i).2) :: r) t F w' → (playsM cmp y.n s lost i).2.length = L → ValidL y.n (playsM cmp y.n s lost i).2 → K w') :
    callK Try.prog 42 [.leaf (.ptr (some (y.b, 0))), .leaf (.int .i64 i)] w (.tup []) K := by
  refine go_merge_Merge_plays_winnowref11_Thing _ _ _ _ ?_
  unfold S_merge_Merge_plays_winnowref11_Thing
  refine dr_some (h.at_.ld 0 _ rfl rfl ?_)
  have hst : w64 ((w64 ((i : Int) + (y.fr.len : Int))).tdiv 2) = (((i + y.n) / 2 : Nat) : Int) := by
    have h1 : w64 ((i : Int) + (y.n : Int)) = (i : Int) + (y.n : Int) := w64_in (by omega) (by omega)
    rw [hy.len, h1, Int.tdiv_eq_ediv_of_nonneg (by omega), w64_in (by omega) (by omega)]
    omega
  rw [hst]
  have ext : ∀ lost' i' at' (w' : World), playsL cmp s lost' i' at' = playsL cmp s lost i ((i + y.n) / 2) → ∀ l o, playsL cmp s lost' i' at' = (l, o) →
      (∀ (j : Nat), o = some j → MI S w0 D y { s with win := j } ((bl, EL.cells l) :: r) t F w') → (o = none → MI S w0 D y s ((bl, EL.cells l) :: r) t F w') → l.length = L → ValidL y.n l → K w' := by
    intro lost' i' at' w' he l o hlo' h1 h2 hl hv'
    rw [he] at hlo'
    cases o with
    | some j =>
      have hp : playsM cmp y.n s lost i = ({ s with win := j }, l) := by unfold playsM; rw [hlo']
      have := hK w'; rw [hp] at this; exact this (h1 j rfl) hl hv'
    | none =>
      have hp : playsM cmp y.n s lost i = (s, l) := by unfold playsM; rw [hlo']
      have := hK w'; rw [hp] at this; exact this (h2 rfl) hl hv'
  refine join1 (a := .int .i64) (fun x w' => ∃ i' lost', x = ((i' : Nat) : Int) ∧ i' < y.n ∧ lost'.length = L ∧ ValidL y.n lost' ∧ MI S w0 D y s ((bl, EL.cells lost') :: r) t F w' ∧ playsL cmp s lost' i' 0 = playsL cmp s lost i ((i + y.n) / 2)) (fun k hk => ?_) ?_
  · refine loop2 (k1 := .int .i64) (k2 := .int .i64) (fun x a w' => ∃ i' at' lost', x = ((i' : Nat) : Int) ∧ a = ((at' : Nat) : Int) ∧ i' < y.n ∧ at' < L ∧ lost'.length = L ∧ ValidL y.n lost' ∧ MI S w0 D y s ((bl, EL.cells lost') :: r) t F w' ∧ playsL cmp s lost' i' at' = playsL cmp s lost i ((i + y.n) / 2))
      (fun _ a _ => a.toNat) rfl rfl ⟨i, (i + y.n) / 2, lost, rfl, rfl, hi, by omega, hL, hv, h, rfl⟩ ?_
    rintro x a w1 ⟨i1, at1, lost1, rfl, rfl, hi1, ha1, hL1, hv1, h1, he1⟩
    refine ifK_intro (fun hpos => ?_) (fun hpos => ?_)
    · have hpos' : 0 < at1 := by simpa using hpos
      have halt : at1 < lost1.length := by omega
      have hix : (0 : Int) ≤ at1 ∧ (at1 : Int) < (L : Nat) := ⟨by omega, by omega⟩
      have hdiv : w64 ((at1 : Int).tdiv 2) = ((at1 / 2 : Nat) : Int) := by
        have : y.n ≤ 64 := hn
        rw [Int.tdiv_eq_ediv_of_nonneg (by omega)]
        rw [w64_in (by omega) (by omega)]; omega
      refine dr_some (h1.at_.ld 0 y.lo rfl rfl ?_)
      refine ix_some (hc := by rw [hlo]; exact Nat.le_refl _) (o := 0) (b := bl) (by rw [hlo]) hix.1 (by rw [hlo]; exact hix.2) (ld_cell _ (h1.ldL halt) ?_)
      refine ifK_intro (fun hno => ?_) (fun hno => ?_)
      · have hnone : getL lost1 at1 = none := by
          cases hg : getL lost1 at1 with
          | none => rfl
          | some k => rw [hg] at hno; simp [loV] at hno
        refine dr_some (h1.at_.ld 0 y.lo rfl rfl ?_)
        refine ix_some (hc := by rw [hlo]; exact Nat.le_refl _) (o := 0) (b := bl) (by rw [hlo]) hix.1 (by rw [hlo]; exact hix.2) (h1.setL halt (some i1) fun w2 h2 _ => ?_)
        refine ext _ _ _ w2 he1 (lost1.set at1 (some i1)) none ?_ (fun j hj => by cases hj) (fun _ => h2) (by simp [hL1]) (hv1.set hi1)
        rw [playsL, dif_neg (by omega), hnone]
      · obtain ⟨o, ho⟩ : ∃ o, getL lost1 at1 = some o := by
          cases hg : getL lost1 at1 with
          | none => rw [hg] at hno; simp [loV] at hno
          | some k => exact ⟨k, rfl⟩
        have hon : o < y.n := hv1.get halt ho
        rw [ho]
        refine ahead_ok h1.at_ h1.ok hc hon hi1 fun w2 hA2 M2 => ?_
        have h2 := h1.calm M2
        have hstep := he1
        rw [playsL, dif_neg (by omega), ho] at hstep
        refine join1 (a := .int .i64) (fun x w' => ∃ i' lost', x = ((i' : Nat) : Int) ∧ i' < y.n ∧ lost'.length = L ∧ ValidL y.n lost' ∧ MI S w0 D y s ((bl, EL.cells lost') :: r) t F w' ∧ playsL cmp s lost' i' (at1 / 2) = playsL cmp s lost i ((i + y.n) / 2)) (fun k2 hk2 => ?_) ?_
        · refine ifK_intro (fun hah => ?_) (fun hah => ?_)
          · refine dr_some (h2.at_.ld 0 y.lo rfl rfl ?_)
            refine ix_some (hc := by rw [hlo]; exact Nat.le_refl _) (o := 0) (b := bl) (by rw [hlo]) hix.1 (by rw [hlo]; exact hix.2) (h2.setL halt (some i1) fun w3 h3 _ => ?_)
            refine hk2 _ _ ⟨o, _, rfl, hon, by simp [hL1], hv1.set hi1, h3, ?_⟩
            simp only [hah, if_true] at hstep; exact hstep
          · refine hk2 _ _ ⟨i1, _, rfl, hi1, hL1, hv1, h2, ?_⟩
            simp only [hah, Bool.false_eq_true, if_false] at hstep; exact hstep
        · rintro x w3 ⟨i3, lost3, rfl, hi3, hL3, hv3, h3, he3⟩
          rw [hdiv]
          exact ⟨⟨i3, at1 / 2, lost3, rfl, rfl, hi3, by omega, hL3, hv3, h3, he3⟩, by simp; omega⟩
    · have h0 : at1 = 0 := by simp at hpos; omega
      subst h0
      exact hk _ _ ⟨i1, lost1, rfl, hi1, hL1, hv1, h1, he1⟩
  · rintro x w1 ⟨i1, lost1, rfl, hi1, hL1, hv1, h1, he1⟩
    refine dr_some (h1.st0 { s with win := i1 } (show (6 : Nat) ≤ 9 by decide) rfl rfl rfl fun w2 h2 _ => ?_)
    refine ext _ _ _ w2 he1 lost1 (some i1) (by rw [playsL, dif_pos rfl]) (fun j hj => by cases hj; exact h2) (fun h => by cases h) hL1 hv1
end
end Go.Proofs.Ytfhojgammfkabaa
