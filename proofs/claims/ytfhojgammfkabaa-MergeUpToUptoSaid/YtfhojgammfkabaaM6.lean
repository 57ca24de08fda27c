/- The tree of losers, told plainly: who is at its top is ahead of all. -/
import Derived.Test.YtfhojgammfkabaaM2
namespace Go.Proofs.Ytfhojgammfkabaa

/-- q lies in the part of the tree below p -/
def Sub (p q : Nat) : Prop := ∃ k, q / 2 ^ k = p
theorem Sub.refl (p : Nat) : Sub p p := ⟨0, by simp⟩
theorem Sub.le {p q : Nat} (h : Sub p q) : p ≤ q := by obtain ⟨k, rfl⟩ := h; exact Nat.div_le_self _ _
theorem Sub.up {p q : Nat} (h : Sub p q) : Sub (p / 2) q := by
  obtain ⟨k, rfl⟩ := h; exact ⟨k + 1, by rw [Nat.pow_succ, Nat.div_div_eq_div_mul]⟩
/-- one is below the other -/
theorem sub_cmp {p p' q : Nat} (h : Sub p q) (h' : Sub p' q) : Sub p p' ∨ Sub p' p := by
  obtain ⟨a, rfl⟩ := h
  obtain ⟨b, rfl⟩ := h'
  rcases Nat.le_total a b with hab | hab
  · right; refine ⟨b - a, ?_⟩
    rw [Nat.div_div_eq_div_mul, ← Nat.pow_add]; congr 2; omega
  · left; refine ⟨a - b, ?_⟩
    rw [Nat.div_div_eq_div_mul, ← Nat.pow_add]; congr 2; omega
theorem Sub.eq_or {p q : Nat} (h : Sub p q) : q = p ∨ Sub p (q / 2) := by
  obtain ⟨k, rfl⟩ := h
  cases k with
  | zero => left; simp
  | succ k => right; exact ⟨k, by rw [Nat.div_div_eq_div_mul, Nat.pow_succ, Nat.mul_comm]⟩
theorem Sub.trans {p q r : Nat} (h : Sub p q) (h' : Sub q r) : Sub p r := by
  obtain ⟨a, rfl⟩ := h
  obtain ⟨b, rfl⟩ := h'
  exact ⟨b + a, by rw [Nat.div_div_eq_div_mul, Nat.pow_add]⟩
/-- two children have nothing in common -/
theorem sub_sib {p q : Nat} (hp : 0 < p) (h : Sub (2 * p) q) (h' : Sub (2 * p + 1) q) : False := by
  rcases sub_cmp h h' with h | h
  · rcases h.eq_or with h | h
    · omega
    · have := h.le; omega
  · have := h.le; omega
theorem sub_child {p q : Nat} (h : Sub p q) (hne : q ≠ p) : Sub (2 * p) q ∨ Sub (2 * p + 1) q := by
  obtain ⟨k, hk⟩ := h
  cases k with
  | zero => simp at hk; exact absurd hk hne
  | succ k =>
    have h2 : q / 2 ^ k / 2 = p := by rw [Nat.div_div_eq_div_mul, ← Nat.pow_succ]; exact hk
    have : q / 2 ^ k = 2 * p ∨ q / 2 ^ k = 2 * p + 1 := by omega
    rcases this with h | h
    · exact .inl ⟨k, h⟩
    · exact .inr ⟨k, h⟩
/-- the champion of a part of the tree -/
inductive Ch (n : Nat) (A : Nat → Nat → Bool) (l : Nat → Option Nat) : Nat → Nat → Prop
  | leaf {p : Nat} : n ≤ p → p < 2 * n → Ch n A l p (p - n)
  | left {p c d : Nat} : 0 < p → p < n → Ch n A l (2 * p) c → Ch n A l (2 * p + 1) d → l p = some d → A d c = false → Ch n A l p c
  | right {p c d : Nat} : 0 < p → p < n → Ch n A l (2 * p) c → Ch n A l (2 * p + 1) d → l p = some c → A c d = false → Ch n A l p d
/-- it is one of those below -/
theorem Ch.sub {n : Nat} {A : Nat → Nat → Bool} {l : Nat → Option Nat} {p c : Nat} (h : Ch n A l p c) : c < n ∧ Sub p (c + n) := by
  induction h with
  | leaf h1 h2 =>
    rename_i p
    refine ⟨by omega, ?_⟩
    have : p - n + n = p := by omega
    rw [this]; exact Sub.refl _
  | left h1 h2 k1 k2 h3 h4 ih1 ih2 =>
    rename_i p c d
    refine ⟨ih1.1, ?_⟩
    have := ih1.2.up
    have e : 2 * p / 2 = p := by omega
    rw [e] at this; exact this
  | right h1 h2 k1 k2 h3 h4 ih1 ih2 =>
    rename_i p c d
    refine ⟨ih2.1, ?_⟩
    have := ih2.2.up
    have e : (2 * p + 1) / 2 = p := by omega
    rw [e] at this; exact this
/-- it depends on what lies below alone -/
theorem Ch.congr {n : Nat} {A A' : Nat → Nat → Bool} {l l' : Nat → Option Nat} {p c : Nat} (h : Ch n A l p c) (hl : ∀ q, Sub p q → q < n → l' q = l q) (hA : ∀ i j, Sub p (i + n) → Sub p (j + n) → A' i j = A i j) : Ch n A' l' p c := by
  induction h with
  | leaf h1 h2 => exact .leaf h1 h2
  | left h1 h2 k1 k2 h3 h4 ih1 ih2 =>
    rename_i p c d
    have e1 : ∀ {q}, Sub (2 * p) q → Sub p q := fun h => by have := h.up; have e : 2 * p / 2 = p := by omega
                                                            rw [e] at this; exact this
    have e2 : ∀ {q}, Sub (2 * p + 1) q → Sub p q := fun h => by have := h.up; have e : (2 * p + 1) / 2 = p := by omega
                                                                rw [e] at this; exact this
    exact .left h1 h2 (ih1 (fun q hq => hl q (e1 hq)) fun i j hi hj => hA i j (e1 hi) (e1 hj)) (ih2 (fun q hq => hl q (e2 hq)) fun i j hi hj => hA i j (e2 hi) (e2 hj)) ((hl p (Sub.refl _) h2).trans h3) ((hA _ _ (e2 k2.sub.2) (e1 k1.sub.2)).trans h4)
  | right h1 h2 k1 k2 h3 h4 ih1 ih2 =>
    rename_i p c d
    have e1 : ∀ {q}, Sub (2 * p) q → Sub p q := fun h => by have := h.up; have e : 2 * p / 2 = p := by omega
                                                            rw [e] at this; exact this
    have e2 : ∀ {q}, Sub (2 * p + 1) q → Sub p q := fun h => by have := h.up; have e : (2 * p + 1) / 2 = p := by omega
                                                                rw [e] at this; exact this
    exact .right h1 h2 (ih1 (fun q hq => hl q (e1 hq)) fun i j hi hj => hA i j (e1 hi) (e1 hj)) (ih2 (fun q hq => hl q (e2 hq)) fun i j hi hj => hA i j (e2 hi) (e2 hj)) ((hl p (Sub.refl _) h2).trans h3) ((hA _ _ (e1 k1.sub.2) (e2 k2.sub.2)).trans h4)
/-- nobody below is ahead of the champion -/
theorem Ch.best {n : Nat} {A : Nat → Nat → Bool} (hirr : ∀ i, A i i = false) (htr : ∀ i j k, A i j = false → A j k = false → A i k = false) {l : Nat → Option Nat} {p c : Nat} (h : Ch n A l p c) : ∀ i, i < n → Sub p (i + n) → A i c = false := by
  induction h with
  | leaf h1 h2 =>
    rename_i p
    intro i hi hs
    obtain ⟨k, hk⟩ := hs
    cases k with
    | zero => simp at hk; have : i = p - n := by omega
              rw [this]; exact hirr _
    | succ k =>
      have : (i + n) / 2 ^ (k + 1) ≤ (i + n) / 2 := by
        rw [Nat.pow_succ, Nat.mul_comm, ← Nat.div_div_eq_div_mul]; exact Nat.div_le_self _ _
      omega
  | left h1 h2 k1 k2 h3 h4 ih1 ih2 =>
    intro i hi hs
    rcases sub_child hs (by omega) with hs | hs
    · exact ih1 i hi hs
    · exact htr _ _ _ (ih2 i hi hs) h4
  | right h1 h2 k1 k2 h3 h4 ih1 ih2 =>
    intro i hi hs
    rcases sub_child hs (by omega) with hs | hs
    · exact htr _ _ _ (ih1 i hi hs) h4
    · exact ih2 i hi hs
theorem sub_one {q : Nat} (hq : 0 < q) : Sub 1 q := by
  induction q using Nat.strongRecOn with
  | _ q ih =>
    by_cases h : q = 1
    · subst h; exact Sub.refl _
    · obtain ⟨k, hk⟩ := ih (q / 2) (by omega) (by omega)
      exact ⟨k + 1, by rw [Nat.pow_succ, Nat.mul_comm, ← Nat.div_div_eq_div_mul]; exact hk⟩
/-- all below p have played -/
def Cpl (n : Nat) (Dn : Nat → Prop) (p : Nat) : Prop := ∀ i, i < n → Sub p (i + n) → Dn i
def sib (q : Nat) : Nat := if q % 2 = 0 then q + 1 else q - 1
/-- the tree where these have played -/
structure Inv (n : Nat) (A : Nat → Nat → Bool) (l : Nat → Option Nat) (Dn : Nat → Prop) : Prop where
  no : ∀ p, 0 < p → p < n → ¬ Cpl n Dn (2 * p) → ¬ Cpl n Dn (2 * p + 1) → l p = none
  one : ∀ q, 2 ≤ q → q < 2 * n → Cpl n Dn q → ¬ Cpl n Dn (sib q) → ∃ c, Ch n A l q c ∧ l (q / 2) = some c
  top : (∀ i, i < n → Dn i) → 0 < n → ∃ c, Ch n A l 1 c
/-- one step up, as a function -/
def up (A : Nat → Nat → Bool) (l : Nat → Option Nat) (i a : Nat) : (Nat → Option Nat) × Option Nat :=
  if h : a = 0 then (l, some i) else
    match l a with
    | none => (fun q => if q = a then some i else l q, none)
    | some o => if A o i then up A (fun q => if q = a then some i else l q) o (a / 2) else up A l i (a / 2)
termination_by a
decreasing_by all_goals omega

section
variable {n : Nat} {A : Nat → Nat → Bool} {l : Nat → Option Nat} {Dn : Nat → Prop}
theorem sib_half {r : Nat} (h : 2 ≤ r) : sib r / 2 = r / 2 := by unfold sib; split <;> omega
theorem sib_sib (r : Nat) : sib (sib r) = r := by unfold sib; split <;> (split <;> omega)
theorem sib_ge {r : Nat} (h : 2 ≤ r) : 2 ≤ sib r := by unfold sib; split <;> omega
theorem sib_lt {r : Nat} (h : r < 2 * n) : sib r < 2 * n := by unfold sib; split <;> omega
theorem sib_cases (r : Nat) : (r = 2 * (r / 2) ∧ sib r = 2 * (r / 2) + 1) ∨ (r = 2 * (r / 2) + 1 ∧ sib r = 2 * (r / 2)) := by unfold sib; split <;> omega
theorem sub_sib' {r x : Nat} (h2 : 2 ≤ r) (h : Sub r x) (h' : Sub (sib r) x) : False := by
  rcases sib_cases r with ⟨a, b⟩ | ⟨a, b⟩
  · rw [a] at h; rw [b] at h'; exact sub_sib (by omega) h h'
  · rw [a] at h; rw [b] at h'; exact sub_sib (by omega) h' h
theorem cpl_child {a : Nat} (h1 : Cpl n Dn (2 * a)) (h2 : Cpl n Dn (2 * a + 1)) (ha : a < n) : Cpl n Dn a := fun i hi hs => by
  rcases sub_child hs (by omega) with h | h
  · exact h1 i hi h
  · exact h2 i hi h
theorem Cpl.down {a r : Nat} (h : Cpl n Dn a) (hs : Sub a r) : Cpl n Dn r := fun i hi hr => h i hi (hs.trans hr)
/-- a part of the tree that does not hold source i -/
theorem cpl_same {i r : Nat} (hr : ¬ Sub r (i + n)) : Cpl n (fun j => Dn j ∨ j = i) r ↔ Cpl n Dn r := by
  constructor
  · intro h j hj hs
    rcases h j hj hs with h | h
    · exact h
    · subst h; exact absurd hs hr
  · intro h j hj hs; exact .inl (h j hj hs)
def setF (l : Nat → Option Nat) (a c : Nat) : Nat → Option Nat := fun q => if q = a then some c else l q
theorem setF_same (l : Nat → Option Nat) (a c : Nat) : setF l a c a = some c := by simp [setF]
theorem setF_ne (l : Nat → Option Nat) {a c q : Nat} (h : q ≠ a) : setF l a c q = l q := by simp [setF, h]
theorem Ch.setF {p c a d : Nat} (h : Ch n A l p c) (ha : ¬ Sub p a) : Ch n A (setF l a d) p c :=
  h.congr (fun q hq _ => setF_ne l (fun e => ha (e ▸ hq))) fun _ _ _ _ => rfl
/-- the champion of the part below a, by its two halves -/
theorem ch_join {q a c o : Nat} (ha : a = q / 2) (h2 : 2 ≤ q) (hq : q < 2 * n) (hc : Ch n A l q c) (ho : Ch n A l (sib q) o) : (l a = some o → A o c = false → Ch n A l a c) ∧ (l a = some c → A c o = false → Ch n A l a o) := by
  subst ha
  rcases sib_cases q with ⟨e1, e2⟩ | ⟨e1, e2⟩
  · rw [e1] at hc; rw [e2] at ho
    exact ⟨fun h1 h3 => .left (by omega) (by omega) hc ho h1 h3, fun h1 h3 => .right (by omega) (by omega) hc ho h1 h3⟩
  · rw [e1] at hc; rw [e2] at ho
    exact ⟨fun h1 h3 => .right (by omega) (by omega) ho hc h1 h3, fun h1 h3 => .left (by omega) (by omega) ho hc h1 h3⟩
/-- what holds while source i goes up and stands at q -/
structure Way (n : Nat) (A : Nat → Nat → Bool) (l : Nat → Option Nat) (Dn : Nat → Prop) (i q c : Nat) : Prop where
  q1 : 1 ≤ q
  qn : q < 2 * n
  lf : Sub q (i + n)
  ch : Ch n A l q c
  cpl : Cpl n (fun j => Dn j ∨ j = i) q
  path : ∀ r, 2 ≤ r → Sub r q → (Cpl n Dn (sib r) → ∃ d, Ch n A l (sib r) d ∧ l (r / 2) = some d) ∧ (¬ Cpl n Dn (sib r) → l (r / 2) = none)
  no : ∀ p, 0 < p → p < n → (∀ r, 2 ≤ r → Sub r q → r / 2 ≠ p) → ¬ Cpl n (fun j => Dn j ∨ j = i) (2 * p) → ¬ Cpl n (fun j => Dn j ∨ j = i) (2 * p + 1) → l p = none
  one : ∀ p, 2 ≤ p → p < 2 * n → (∀ r, 2 ≤ r → Sub r q → r / 2 ≠ p / 2) → Cpl n (fun j => Dn j ∨ j = i) p → ¬ Cpl n (fun j => Dn j ∨ j = i) (sib p) → ∃ c, Ch n A l p c ∧ l (p / 2) = some c
theorem half_le_of_sub {r q : Nat} (h : Sub r q) : r / 2 ≤ q / 2 := by have := h.le; omega
theorem Way.go (has : ∀ i j, A i j = true → A j i = false) : ∀ (q : Nat) (l : Nat → Option Nat) (i c : Nat), Way n A l Dn i q c →
    Inv n A (up A l c (q / 2)).1 (fun j => Dn j ∨ j = i) ∧ (∀ w, (up A l c (q / 2)).2 = some w → Ch n A (up A l c (q / 2)).1 1 w) ∧ ((up A l c (q / 2)).2 = none → ¬ ∀ j, j < n → (Dn j ∨ j = i)) := by
  intro q
  induction q using Nat.strongRecOn with
  | _ q ih =>
    intro l i c h
    by_cases hq1 : q = 1
    · subst hq1
      have hup : up A l c (1 / 2) = (l, some c) := by rw [up]; rfl
      rw [hup]
      refine ⟨⟨fun p hp hpn => h.no p hp hpn fun r hr hs => by have := hs.le; omega, fun p hp hpn => h.one p hp hpn fun r hr hs => by have := hs.le; omega, fun _ _ => ⟨c, h.ch⟩⟩, fun w hw => by cases hw; exact h.ch, fun hn => by cases hn⟩
    · have hq2 : 2 ≤ q := by have := h.q1; omega
      have hqn := h.qn
      have hsq : ¬ Sub (sib q) (i + n) := fun hs => sub_sib' hq2 h.lf hs
      have ha0 : q / 2 ≠ 0 := by omega
      have hanc : ∀ {r}, Sub r (q / 2) → Sub r q := fun {r} hr => hr.trans ⟨1, by simp⟩
      have hnot : ¬ Sub q (q / 2) := fun hs => by have := hs.le; omega
      have hnots : ¬ Sub (sib q) (q / 2) := fun hs => by have h1 := hs.le; have h2 := sib_half hq2; have h3 := sib_ge hq2; omega
      obtain ⟨hp1, hp2⟩ := h.path q hq2 (Sub.refl _)
      -- siblings of the path above do not hold the parent
      have hsibq : ∀ r, 2 ≤ r → Sub r (q / 2) → ¬ Sub (sib r) (q / 2) := fun r hr hs hs' => sub_sib' hr hs hs'
      have hsibi : ∀ r, 2 ≤ r → Sub r q → (Cpl n (fun j => Dn j ∨ j = i) (sib r) ↔ Cpl n Dn (sib r)) := fun r hr hs => cpl_same fun hs' => sub_sib' hr (hs.trans h.lf) hs'
      by_cases hcs : Cpl n Dn (sib q)
      · obtain ⟨o, hco, hlo⟩ := hp1 hcs
        have hcsib : Cpl n (fun j => Dn j ∨ j = i) (sib q) := (hsibi q hq2 (Sub.refl _)).2 hcs
        have hcpl : Cpl n (fun j => Dn j ∨ j = i) (q / 2) := by
          rcases sib_cases q with ⟨e1, e2⟩ | ⟨e1, e2⟩
          · exact cpl_child (e1 ▸ h.cpl) (e2 ▸ hcsib) (by omega)
          · exact cpl_child (e2 ▸ hcsib) (e1 ▸ h.cpl) (by omega)
        -- on, from the parent
        have next : ∀ (l' : Nat → Option Nat) (c' : Nat), Ch n A l' (q / 2) c' → (∀ x, x ≠ q / 2 → l' x = l x) → Way n A l' Dn i (q / 2) c' := by
          intro l' c' hch hl'
          have hcg : ∀ {p c}, Ch n A l p c → ¬ Sub p (q / 2) → Ch n A l' p c := fun {p c} hc hns => hc.congr (fun x hx _ => hl' x fun e => hns (e ▸ hx)) fun _ _ _ _ => rfl
          refine ⟨by omega, by omega, ?_, hch, hcpl, ?_, ?_, ?_⟩
          · exact (show Sub (q / 2) q from ⟨1, by simp⟩).trans h.lf
          · intro r hr hs
            obtain ⟨p1, p2⟩ := h.path r hr (hanc hs)
            have hne : r / 2 ≠ q / 2 := by have := hs.le; omega
            refine ⟨fun hc => ?_, fun hc => by rw [hl' _ hne]; exact p2 hc⟩
            obtain ⟨d, hd, hld⟩ := p1 hc
            exact ⟨d, hcg hd (hsibq r hr hs), by rw [hl' _ hne]; exact hld⟩
          · intro p hp hpn hpath n1 n2
            by_cases hpa : p = q / 2
            · subst hpa
              rcases sib_cases q with ⟨e1, e2⟩ | ⟨e1, e2⟩
              · rw [← e1] at n1; exact absurd h.cpl n1
              · rw [← e1] at n2; exact absurd h.cpl n2
            · rw [hl' _ hpa]
              refine h.no p hp hpn (fun r hr hs e => ?_) n1 n2
              rcases hs.eq_or with e' | hs'
              · subst e'; exact hpa e.symm
              · exact hpath r hr hs' e
          · intro p hp hpn hpath c1 c2
            by_cases hpa : p / 2 = q / 2
            · exfalso
              apply c2
              have : p = q ∨ p = sib q := by rcases sib_cases q with ⟨e1, e2⟩ | ⟨e1, e2⟩ <;> omega
              rcases this with e | e
              · subst e; exact hcsib
              · subst e; rw [sib_sib]; exact h.cpl
            · obtain ⟨d, hd, hld⟩ := h.one p hp hpn (fun r hr hs e => by
                rcases hs.eq_or with e' | hs'
                · subst e'; exact hpa e.symm
                · exact hpath r hr hs' e) c1 c2
              refine ⟨d, hcg hd fun hs => ?_, by rw [hl' _ hpa]; exact hld⟩
              exact hpath p hp hs rfl
        have hstep : up A l c (q / 2) = if A o c then up A (setF l (q / 2) c) o (q / 2 / 2) else up A l c (q / 2 / 2) := by
          rw [up, dif_neg ha0, hlo]; rfl
        rw [hstep]
        by_cases hA : A o c = true
        · rw [if_pos hA]
          refine ih (q / 2) (by omega) _ i o (next _ _ ?_ fun x hx => setF_ne l hx)
          exact (ch_join (l := setF l (q / 2) c) rfl hq2 hqn (h.ch.setF hnot) (hco.setF hnots)).2 (setF_same ..) (has _ _ hA)
        · rw [if_neg hA]
          refine ih (q / 2) (by omega) _ i c (next _ _ ?_ fun x hx => rfl)
          exact (ch_join rfl hq2 hqn h.ch hco).1 hlo (by simpa using hA)
      · have hln := hp2 hcs
        have hstep : up A l c (q / 2) = (setF l (q / 2) c, none) := by
          rw [up, dif_neg ha0, hln]; rfl
        rw [hstep]
        have hncs : ¬ Cpl n (fun j => Dn j ∨ j = i) (sib q) := fun hc => hcs ((hsibi q hq2 (Sub.refl _)).1 hc)
        have hup : ∀ r, Sub r q → r ≠ q → ¬ Cpl n (fun j => Dn j ∨ j = i) r := by
          intro r hs hne hc
          rcases hs.eq_or with e | hs'
          · exact hne e.symm
          · refine hncs (hc.down (hs'.trans ⟨1, ?_⟩))
            rw [Nat.pow_one, sib_half hq2]
        show Inv n A (setF l (q / 2) c) _ ∧ (∀ w, (none : Option Nat) = some w → Ch n A (setF l (q / 2) c) 1 w) ∧ ((none : Option Nat) = none → _)
        refine ⟨⟨?_, ?_, ?_⟩, (fun w hw => by cases hw), fun _ hall => hncs fun j hj _ => hall j hj⟩
        · intro p hp hpn n1 n2
          by_cases hpath : ∃ r, 2 ≤ r ∧ Sub r q ∧ r / 2 = p
          · obtain ⟨r, hr, hs, rfl⟩ := hpath
            rcases hs.eq_or with e | hs'
            · subst e
              rcases sib_cases q with ⟨e1, e2⟩ | ⟨e1, e2⟩
              · rw [← e1] at n1; exact absurd h.cpl n1
              · rw [← e1] at n2; exact absurd h.cpl n2
            · have hne : r / 2 ≠ q / 2 := by have := hs'.le; omega
              rw [setF_ne l hne]
              refine (h.path r hr hs).2 fun hc => ?_
              have hc' := (hsibi r hr hs).2 hc
              rcases sib_cases r with ⟨e1, e2⟩ | ⟨e1, e2⟩
              · rw [e2] at hc'; exact n2 hc'
              · rw [e2] at hc'; exact n1 hc'
          · have hpath' : ∀ r, 2 ≤ r → Sub r q → r / 2 ≠ p := fun r hr hs e => hpath ⟨r, hr, hs, e⟩
            rw [setF_ne l fun e => hpath' q hq2 (Sub.refl _) e.symm]
            exact h.no p hp hpn hpath' n1 n2
        · intro p hp hpn c1 c2
          by_cases hpath : ∃ r, 2 ≤ r ∧ Sub r q ∧ r / 2 = p / 2
          · obtain ⟨r, hr, hs, he⟩ := hpath
            have hpr : p = r ∨ p = sib r := by rcases sib_cases r with ⟨e1, e2⟩ | ⟨e1, e2⟩ <;> omega
            rcases hpr with e | e
            · subst e
              by_cases hpq : p = q
              · subst hpq; exact ⟨c, h.ch.setF hnot, setF_same ..⟩
              · exact absurd c1 (hup p hs hpq)
            · subst e
              rcases hs.eq_or with e | hs'
              · subst e; exact absurd c1 hncs
              · have hne : sib r / 2 ≠ q / 2 := by rw [sib_half hr]; have := hs'.le; omega
                obtain ⟨d, hd, hld⟩ := (h.path r hr hs).1 ((hsibi r hr hs).1 c1)
                exact ⟨d, hd.setF (hsibq r hr hs'), by rw [setF_ne l hne, sib_half hr]; exact hld⟩
          · have hpath' : ∀ r, 2 ≤ r → Sub r q → r / 2 ≠ p / 2 := fun r hr hs e => hpath ⟨r, hr, hs, e⟩
            obtain ⟨d, hd, hld⟩ := h.one p hp hpn hpath' c1 c2
            refine ⟨d, hd.setF fun hs => hpath' p hp (hanc hs) rfl, ?_⟩
            rw [setF_ne l fun e => hpath' q hq2 (Sub.refl _) e.symm]; exact hld
        · intro hall _; exact absurd (fun j hj _ => hall j hj) hncs
/-- **a source that has not played yet plays** -/
theorem Inv.plays (has : ∀ i j, A i j = true → A j i = false) (h : Inv n A l Dn) {i : Nat} (hi : i < n) (hd : ¬ Dn i) :
    Inv n A (up A l i ((i + n) / 2)).1 (fun j => Dn j ∨ j = i) ∧ (∀ w, (up A l i ((i + n) / 2)).2 = some w → Ch n A (up A l i ((i + n) / 2)).1 1 w) ∧ ((up A l i ((i + n) / 2)).2 = none → ¬ ∀ j, j < n → (Dn j ∨ j = i)) := by
  have hleaf : ∀ j, j < n → Sub (i + n) (j + n) → j = i := fun j hj hs => by
    rcases hs.eq_or with e | hs
    · omega
    · have := hs.le; omega
  have hnc : ∀ r, Sub r (i + n) → ¬ Cpl n Dn r := fun r hs hc => hd (hc i hi hs)
  refine Way.go has (i + n) l i i ⟨by omega, by omega, Sub.refl _, ?_, fun j hj hs => .inr (hleaf j hj hs), ?_, ?_, ?_⟩
  · have := Ch.leaf (A := A) (l := l) (n := n) (p := i + n) (by omega) (by omega)
    have e : i + n - n = i := by omega
    rw [e] at this; exact this
  · intro r hr hs
    have hrn : r < 2 * n := by have := hs.le; omega
    refine ⟨fun hc => ?_, fun hc => ?_⟩
    · have := h.one (sib r) (sib_ge hr) (sib_lt hrn) hc (by rw [sib_sib]; exact hnc r hs)
      rw [sib_half hr] at this; exact this
    · refine h.no (r / 2) (by omega) (by omega) ?_ ?_
      · rcases sib_cases r with ⟨e1, e2⟩ | ⟨e1, e2⟩
        · rw [← e1]; exact hnc r hs
        · rw [← e2]; exact hc
      · rcases sib_cases r with ⟨e1, e2⟩ | ⟨e1, e2⟩
        · rw [← e2]; exact hc
        · rw [← e1]; exact hnc r hs
  · intro p hp hpn hpath n1 n2
    exact h.no p hp hpn (fun hc => n1 fun j hj hs => .inl (hc j hj hs)) (fun hc => n2 fun j hj hs => .inl (hc j hj hs))
  · intro p hp hpn hpath c1 c2
    have hns : ¬ Sub p (i + n) := fun hs => hpath p hp hs rfl
    exact h.one p hp hpn ((cpl_same hns).1 c1) fun hc => c2 fun j hj hs => .inl (hc j hj hs)
end
end Go.Proofs.Ytfhojgammfkabaa
