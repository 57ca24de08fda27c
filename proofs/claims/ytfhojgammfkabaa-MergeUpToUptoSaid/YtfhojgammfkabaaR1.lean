/- Opening: a slice among the arguments, whatever its elements are. -/
import Derived.Test.YtfhojgammfkabaaR0
import Derived.Test.YtfhojgammfkabaaL1
import Derived.SliceStrings
namespace Go.Proofs.Ytfhojgammfkabaa
open Go.ChangeShapes Go.WideShapes Go.ChangeAt Go.RowKit Go.Vw

def sumF {β : Type} (g : β → Nat) : List β → Nat
  | [] => 0
  | b :: r => g b + sumF g r
theorem sumF_le {H β : Type} {g : β → Nat} : ∀ (bs : List β) (ds : List (DataW H)), bs.length = ds.length → (∀ (i : Nat) b d, bs[i]? = some b → ds[i]? = some d → g b ≤ Rows.uptoBulk d) → sumF g bs ≤ Rows.uptoBulkAll ds
  | [], ds, _, _ => Nat.zero_le _
  | b :: bs, [], h, _ => by simp at h
  | b :: bs, d :: ds, h, hg => by
    have h1 := hg 0 b d rfl rfl
    have h2 := sumF_le bs ds (by simpa using h) fun i b' d' hb hd => hg (i + 1) b' d' (by simpa using hb) (by simpa using hd)
    simp only [sumF, Rows.uptoBulkAll]
    omega
theorem pick {γ : Type} {p : Nat → γ → Prop} : ∀ n, (∀ i, i < n → ∃ c, p i c) → ∃ l : List γ, l.length = n ∧ ∀ (i : Nat) c, l[i]? = some c → p i c
  | 0, _ => ⟨[], rfl, fun i c h => by simp at h⟩
  | n + 1, h => by
    obtain ⟨l, hl, hp⟩ := pick n fun i hi => h i (by omega)
    obtain ⟨c, hc⟩ := h n (by omega)
    refine ⟨l ++ [c], by simp [hl], fun i d hd => ?_⟩
    rw [List.getElem?_append] at hd
    split at hd
    · exact hp i d hd
    · have : i = n := by have := (List.getElem?_eq_some_iff.1 hd).1; simp at this; omega
      subst this
      rw [hl, Nat.sub_self] at hd
      cases hd; exact hc
section
variable {H : Type} {enc : TypeId × Value → H} {P : Program} {w : World} {base : Nat} {held : Bool}
theorem slA_of (a : Addr) {c : Nat} (hs : c ≠ 0 → a.spot = none) : ∃ o, slA c (some (a.block, o)) = some a ∧ (c ≠ 0 → o = a.off) := by
  by_cases hc : c = 0
  · subst hc
    obtain ⟨o, ho⟩ := decA_all a
    exact ⟨o, by simp [slA, ho], fun h => absurd rfl h⟩
  · refine ⟨a.off, ?_, fun _ => rfl⟩
    have := hs hc
    obtain ⟨b, o, s⟩ := a
    simp only at this
    subst this
    simp [slA, hc]
theorem cells_spot {a : Addr} {n : Nat} {cs : List Value} (hn : 0 < n) (h : w.cells? base a n = some cs) : a.spot = none ∧ a.block < w.heap.size ∧ ∀ j, j < n → w.cell? ⟨a.block, a.off + j, none⟩ = cs[j]? := by
  obtain ⟨_, hl, hc⟩ := World.cells?_some h
  have h0 := hc 0 hn
  have e0 : a.add 0 = a := by simp [Addr.add]
  rw [e0, List.getElem?_eq_getElem (by omega)] at h0
  have hsp : a.spot = none := by
    cases hs : a.spot with
    | none => rfl
    | some s =>
      unfold World.cell? at h0
      rw [hs] at h0
      split at h0 <;> simp at h0
  obtain ⟨b, o, s⟩ := a
  simp only at hsp
  subst hsp
  refine ⟨rfl, ?_, fun j hj => ?_⟩
  · exact cell_lt h0
  · rw [← hc j hj, Addr.add_none]
theorem open_slice {α β : Type} (E : Enc α) (R : α → β → Prop) (g : β → Nat) {t e : TypeId} {fuel : Nat} {cs : List Value} {x : DataW H × List MemPlace} (ht : P.underlying t = some (.slice e)) (hc : P.cellsOf e = E.n)
    (hel : ∀ n cs y, DataW.trod enc P w base (fun _ => true) held n e cs = some y → ∃ a b, cs = E.f a ∧ R a b ∧ g b ≤ Rows.uptoBulk y.1)
    (h : DataW.trod enc P w base (fun _ => true) held fuel t cs = some x) :
    ∃ (s : Sl) (l : List α) (bs : List β), cs = [(LV.sl s).toV] ∧ RdS w E s l ∧ (∀ b, rk s b → b < w.heap.size) ∧ bs.length = l.length ∧ (∀ (i : Nat) a b, l[i]? = some a → bs[i]? = some b → R a b) ∧ sumF g bs + 1 ≤ Rows.uptoBulk x.1 := by
  rcases DataW.trod_slice ht h with ⟨rfl, rfl⟩ | ⟨a, len, cap, elems, rest, n, _, rfl, rfl, hb, hl, hm, hlen, hel2, hsp, _⟩
  · exact ⟨⟨none, 0, 0⟩, [], [], rfl, ⟨rfl, .inl rfl, Nat.le_refl _⟩, fun b hb => absurd rfl hb.1, rfl, fun i a b h => by simp at h, by simp [sumF, Rows.uptoBulk]⟩
  have hpos := E.pos
  rw [hc] at hel2 hsp
  obtain ⟨hrl, hr⟩ := hsp rfl
  have hspot : cap ≠ 0 → a.spot = none ∧ a.block < w.heap.size := by
    intro h0
    by_cases hl0 : len = 0
    · have := hr 0 (by omega)
      rw [List.getElem?_eq_getElem (by omega), Option.bind_eq_some_iff] at this
      obtain ⟨cs', h1, _⟩ := this
      obtain ⟨k1, k2, _⟩ := cells_spot (a := a) hpos (by rw [hl0] at h1; simpa [Addr.add] using h1)
      exact ⟨k1, k2⟩
    · have := hel2 0 (by omega)
      rw [List.getElem?_eq_getElem (by omega), Option.bind_eq_some_iff] at this
      obtain ⟨cs', h1, _⟩ := this
      obtain ⟨k1, k2, _⟩ := cells_spot (a := a) hpos (by simpa [Addr.add] using h1)
      exact ⟨k1, k2⟩
  obtain ⟨o, ho, hoo⟩ := slA_of a (c := cap) fun h => (hspot h).1
  obtain ⟨l, hll, hp⟩ := pick (γ := α × β) (p := fun i ab => w.cells? base (a.add (i * E.n)) E.n = some (E.f ab.1) ∧ R ab.1 ab.2 ∧ ∀ y, elems[i]? = some y → g ab.2 ≤ Rows.uptoBulk y.1) len fun i hi => by
    have := hel2 i hi
    rw [List.getElem?_eq_getElem (by omega), Option.bind_eq_some_iff] at this
    obtain ⟨cs', h1, h2⟩ := this
    obtain ⟨a', b', rfl, hR, hg⟩ := hel _ _ _ h2
    refine ⟨(a', b'), h1, hR, fun y hy => ?_⟩
    rw [List.getElem?_eq_getElem (by omega)] at hy
    cases hy; exact hg
  refine ⟨⟨some (a.block, o), len, cap⟩, l.map (·.1), l.map (·.2), by simp [LV.toV, ho], ⟨by simp [hll], ?_, hl⟩, ?_, by simp, ?_, ?_⟩
  · by_cases hl0 : len = 0
    · left
      have : l = [] := List.eq_nil_of_length_eq_zero (by omega)
      subst this; rfl
    · right
      obtain ⟨k1, k2⟩ := hspot (by omega)
      refine ⟨a.block, o, rfl, fun i hi => ?_⟩
      rw [E.cells_length, List.length_map, hll] at hi
      have hq : i / E.n < len := (Nat.div_lt_iff_lt_mul hpos).2 hi
      have hrr : i % E.n < E.n := Nat.mod_lt _ hpos
      have hdm : i / E.n * E.n + i % E.n = i := by rw [Nat.mul_comm]; exact Nat.div_add_mod i E.n
      have hget := E.cells_get (l.map (·.1)) (i / E.n) (i % E.n) hrr
      rw [hdm] at hget
      rw [hget, List.getElem?_map, List.getElem?_eq_getElem (by omega)]
      obtain ⟨h1, _, _⟩ := hp (i / E.n) l[i / E.n] (List.getElem?_eq_getElem (by omega))
      have h2 := (cells_spot hpos h1).2.2 (i % E.n) hrr
      have hadd : a.add (i / E.n * E.n) = ⟨a.block, a.off + i / E.n * E.n, none⟩ := by
        obtain ⟨b, o, s⟩ := a
        simp only at k1
        subst k1
        exact Addr.add_none ..
      rw [hadd] at h2
      simp only at h2
      rw [hoo (by omega)]
      rw [show a.off + i = a.off + i / E.n * E.n + i % E.n by omega, h2]
      rfl
  · rintro b ⟨h0, o', hb'⟩
    cases hb'
    exact (hspot h0).2
  · intro i a' b' h1 h2
    rw [List.getElem?_map] at h1 h2
    cases hli : l[i]? with
    | none => rw [hli] at h1; cases h1
    | some ab =>
      rw [hli] at h1 h2
      cases h1; cases h2
      exact (hp i ab hli).2.1
  · have := sumF_le (g := g) (l.map (·.2)) (elems.map (·.1)) (by simp; omega) fun i b d hb hd => by
      rw [List.getElem?_map] at hb hd
      cases hli : l[i]? with
      | none => rw [hli] at hb; cases hb
      | some ab =>
        cases hei : elems[i]? with
        | none => rw [hei] at hd; cases hd
        | some y =>
          rw [hli] at hb; rw [hei] at hd
          cases hb; cases hd
          exact (hp i ab hli).2.2 y hei
    simp only [Rows.uptoBulk]
    omega
end
end Go.Proofs.Ytfhojgammfkabaa
