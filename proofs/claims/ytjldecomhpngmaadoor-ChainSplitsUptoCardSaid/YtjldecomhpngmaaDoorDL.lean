/- Slices that are one's own; blocks in parts; slices that are filled and grown (taken out of V/VA, V/VM by hand). (no program) -/
import Derived.Test.YtjldecomhpngmaaDoorLB
namespace Go.Proofs.YtjldecomhpngmaaDoor
open Go.Vw
abbrev F0 : Nat → Prop := fun _ => False
/-! ### slices that are one's own, and may be cut -/
def VecL {α : Type} (ro : List (Nat × List Value)) (E : Enc α) (s : Sl) (l : List α) : Prop :=
  s.len = l.length ∧ s.len ≤ s.cap ∧ ((ro = [] ∧ s.p = none ∧ s.cap = 0) ∨ ∃ b rest, ro = [(b, E.cells l ++ rest)] ∧ s.p = some (b, 0) ∧ s.cap * E.n ≤ (E.cells l ++ rest).length)
theorem VecL.nil {α : Type} (E : Enc α) : VecL [] E ⟨none, 0, 0⟩ [] := ⟨rfl, Nat.le_refl _, .inl ⟨rfl, rfl, rfl⟩⟩
theorem VecL.l_nil {α : Type} {E : Enc α} {s : Sl} {l : List α} (h : VecL [] E s l) : l = [] := by
  rcases h.2.2 with ⟨_, _, hc⟩ | ⟨b, rest, h1, _⟩
  · have h1 := h.1; have h2 := h.2.1
    exact List.eq_nil_of_length_eq_zero (by omega)
  · cases h1
theorem VecL.rd {α : Type} {ro : List (Nat × List Value)} {E : Enc α} {s : Sl} {l : List α} (h : VecL ro E s l) {w : World} (hb : ∀ p ∈ ro, Blk w p.1 p.2) : RdS w E s l := by
  refine ⟨h.1, ?_, h.2.1⟩
  rcases h.2.2 with ⟨rfl, _, _⟩ | ⟨b, rest, rfl, hp, _⟩
  · left; rw [h.l_nil]; rfl
  · refine .inr ⟨b, 0, hp, fun i hi => ?_⟩
    rw [(hb (b, _) (List.mem_singleton.2 rfl)).cell, Nat.zero_add, List.getElem?_append_left hi]
theorem VecL.key {α : Type} {ro : List (Nat × List Value)} {E : Enc α} {s : Sl} {l : List α} (h : VecL ro E s l) {b : Nat} (hb : bk s b) : Ks ro b := by
  obtain ⟨o, hb⟩ := hb
  rcases h.2.2 with ⟨_, hp, _⟩ | ⟨b', rest, h1, h2, _⟩
  · rw [hp] at hb; cases hb
  · rw [h2] at hb; cases hb; exact ⟨_, by rw [h1]; exact List.mem_singleton.2 rfl, rfl⟩
theorem VecL.of_E {α : Type} {ro : List (Nat × List Value)} {E : Enc α} {s : Sl} {l : List α} (h : VecE ro E s l) : VecL ro E s l := by
  refine ⟨h.1, ?_, ?_⟩
  · rcases h.2 with ⟨_, _, h2, rfl⟩ | ⟨b, rest, _, _, h3⟩
    · rw [h.1]; exact Nat.zero_le _
    · rw [List.length_append, E.cells_length] at h3
      rw [h.1]
      exact Nat.le_of_mul_le_mul_right (by omega) E.pos
  · rcases h.2 with ⟨h1, h2, h3, rfl⟩ | ⟨b, rest, h1, h2, h3⟩
    · exact .inl ⟨h1, h2, h3⟩
    · exact .inr ⟨b, rest, h1, h2, by rw [h3]; exact Nat.le_refl _⟩
theorem set_last {α : Type} (m : List α) (x y : α) : (m ++ [x]).set m.length y = m ++ [y] := by rw [List.set_append_right _ _ (Nat.le_refl _)]; simp
theorem appL {α : Type} {w0 w : World} {D : Nat → Prop} {m ro : List (Nat × List Value)} (hA : At w0 D (m ++ ro) w) {E : Enc α} {s x : Sl} {l l2 : List α} (hv : VecL ro E s l) (hr : RdS w E x l2) {e : TypeId} {n bytes : Nat} {zs : List LV} (hn : n = E.n) (hz : zs.length = E.n) (hlim : (l.length + l2.length + 1024) * (bytes + 1) ≤ 2 ^ 46)
    {K : Sl → World → Prop} (hK : ∀ s' ro' w', At w0 D (m ++ ro') w' → VecL ro' E s' (l ++ l2) → Mod (Ks ro) w w' → (l2 = [] → s' = s ∧ ro' = ro ∨ s.cap < s.len + x.len) → K s' w') : ap w e n bytes zs s x K := by
  subst hn
  have hpos := E.pos
  refine ⟨E.cells l2, hr.cells (by rw [E.cells_length, hr.len]), E.cells_isCell l2, ?_, ?_, ?_⟩
  · intro hle hne
    rcases hv.2.2 with ⟨rfl, hn, hc0⟩ | ⟨b, rest, rfl, hp, hc⟩
    · rw [hc0] at hle; omega
    · have hlen : (E.cells l).length = s.len * E.n := by rw [E.cells_length, hv.1]
      have hfit : s.len * E.n + (E.cells l2).length ≤ (E.cells l ++ rest).length := by
        have : s.len * E.n + (E.cells l2).length ≤ s.cap * E.n := by
          rw [E.cells_length, ← hr.len, ← Nat.add_mul]; exact Nat.mul_le_mul_right _ hle
        omega
      have hspl : spl (E.cells l ++ rest) (s.len * E.n) (E.cells l2) = E.cells (l ++ l2) ++ rest.drop (E.cells l2).length := by
        rw [spl_eq _ _ _ hfit, ← hlen, List.take_left, List.drop_length_add_append, E.cells_append]
      have hi : (m ++ [(b, E.cells l ++ rest)])[m.length]? = some (b, E.cells l ++ rest) := by simp
      have hA' := hA.setCells hi (s.len * E.n) (E.cells l2)
      rw [hspl, set_last] at hA'
      have hb : Blk w b (E.cells l ++ rest) := hA.blk hi
      refine ⟨b, 0, hp, fun i hi => ⟨⟨(E.cells l ++ rest)[s.len * E.n + i]'(by rw [E.cells_length, ← hr.len] at hfit; omega), by rw [hb.cell, Nat.zero_add, List.getElem?_eq_getElem]⟩, hb.frz _⟩,
        hK _ [(b, E.cells (l ++ l2) ++ rest.drop (E.cells l2).length)] _ (by rw [Nat.zero_add]; exact hA') ⟨by simp [hv.1, hr.len], by simpa using hle, .inr ⟨b, _, rfl, hp, ?_⟩⟩ ?_ ?_⟩
      · rw [← hspl, spl_length]; exact hc
      · rw [Nat.zero_add]; exact (Mod.setCells ..).mono fun y _ e => ⟨_, List.mem_singleton.2 rfl, e.symm⟩
      · rintro rfl
        left
        have : x.len = 0 := by rw [hr.len]; rfl
        refine ⟨by obtain ⟨p, a, c⟩ := s; simp only at this ⊢; rw [this]; rfl, by simp [Enc.cells]⟩
  · intro h0
    have h1 : l = [] := List.eq_nil_of_length_eq_zero (by have := hv.1; omega)
    have h2 : l2 = [] := List.eq_nil_of_length_eq_zero (by have := hr.len; omega)
    subst h1; subst h2
    have hs : (⟨s.p, 0, s.cap⟩ : Sl) = s := by have := hv.1; obtain ⟨p, len, cap⟩ := s; simp at this; subst this; rfl
    rw [hs]
    exact hK _ ro _ hA (by simpa using hv) (Mod.refl _ _) fun _ => .inl ⟨rfl, rfl⟩
  · intro hlt
    refine ⟨by rw [hv.1, hr.len]; exact hlim, E.cells l, (hv.rd fun p hp => hA.own p (List.mem_append_right _ hp)).cells (by rw [E.cells_length, hv.1]), fun c hc => ?_⟩
    have hA' := (hA.drew.al (E.cells l ++ E.cells l2 ++ (List.replicate (c - (s.len + x.len)) (zs.map LV.toV)).flatten) e)
    have hA2 : At w0 D (m ++ [(w.drew.heap.size, E.cells l ++ E.cells l2 ++ (List.replicate (c - (s.len + x.len)) (zs.map LV.toV)).flatten)]) _ := hA'.sub ((List.sublist_append_left m ro).append (List.Sublist.refl _))
    refine hK _ [(w.drew.heap.size, E.cells (l ++ l2) ++ (List.replicate (c - (s.len + x.len)) (zs.map LV.toV)).flatten)] _ (by rw [E.cells_append]; exact hA2) ⟨by simp [hv.1, hr.len], hc, .inr ⟨_, _, rfl, rfl, ?_⟩⟩ ((Mod.drew _ w).trans (Mod.alloc _ w.drew _) (fun _ _ h => h) (fun _ _ h => h)) fun _ => .inr hlt
    simp only [List.length_append, E.cells_length, List.length_flatten, List.map_replicate, List.sum_replicate_nat, List.length_map, hz]
    rw [← Nat.add_mul, ← hr.len, ← hv.1]; exact Nat.mul_le_mul_right _ (by omega)
/-- a part of what is read -/
theorem RdS.cutR {α : Type} {w : World} {E : Enc α} {s : Sl} {l : List α} (h : RdS w E s l) {lo hi mx : Nat} (h1 : lo ≤ hi) (h2 : hi ≤ l.length) (h3 : hi ≤ mx) : RdS w E (s.cut E.n lo hi mx) ((l.take hi).drop lo) := by
  refine ⟨by simp [Sl.cut]; omega, ?_, by simp [Sl.cut]; omega⟩
  by_cases hz : lo = hi
  · subst hz; left; rw [List.drop_eq_nil_of_le (by simp; omega)]; rfl
  · rcases h.rd with hc | ⟨b, o, hp, hr⟩
    · have := congrArg List.length hc
      rw [E.cells_length] at this
      have hp := E.pos
      have : l.length = 0 := by
        rcases Nat.eq_zero_or_pos l.length with h | h
        · exact h
        · have := Nat.mul_pos h hp; simp at *; omega
      omega
    · have hm : ¬ mx = lo := by omega
      refine .inr ⟨b, o + lo * E.n, by simp [Sl.cut, hm, hp], fun i hi' => ?_⟩
      have e1 : E.cells l = E.cells (l.take lo) ++ (E.cells ((l.take hi).drop lo) ++ E.cells (l.drop hi)) := by
        rw [← E.cells_append, ← E.cells_append]
        congr 1
        have : l.take lo = (l.take hi).take lo := by rw [List.take_take, Nat.min_eq_left h1]
        rw [this, ← List.append_assoc, List.take_append_drop, List.take_append_drop]
      have e2 : (E.cells (l.take lo)).length = lo * E.n := by rw [E.cells_length]; simp; rw [Nat.min_eq_left (by omega)]
      rw [Nat.add_assoc, hr (lo * E.n + i) (by rw [e1]; simp only [List.length_append, e2]; omega), e1, List.getElem?_append_right (by omega), e2, Nat.add_sub_cancel_left, List.getElem?_append_left hi']
abbrev BL := List (Nat × List Value)
theorem flatten_set_perm {α : Type} : ∀ {L : List (List α)} {i : Nat} {x : List α} (y : List α), L[i]? = some x → ((L.eraseIdx i).flatten ++ y).Perm (L.set i y).flatten
  | [], i, x, y, h => by simp at h
  | z :: L, 0, x, y, h => by simp; exact List.perm_append_comm
  | z :: L, i + 1, x, y, h => by
    simp only [List.eraseIdx_cons_succ, List.set_cons_succ, List.flatten_cons, List.append_assoc]
    exact List.Perm.append_left z (flatten_set_perm y (by simpa using h))
theorem set_self {α : Type} : ∀ {L : List α} {i : Nat} {x : α}, L[i]? = some x → L.set i x = L
  | [], _, _, h => by simp at h
  | z :: L, 0, x, h => by simp at h; simp [h]
  | z :: L, i + 1, x, h => by simp; exact set_self (by simpa using h)
section
variable {w0 w : World} {D : Nat → Prop} {L : List BL}
theorem _root_.Go.Vw.At.part {i : Nat} {x : BL} (h : At w0 D L.flatten w) (hi : L[i]? = some x) : At w0 D ((L.eraseIdx i).flatten ++ x) w := by
  have := flatten_set_perm x hi
  rw [set_self hi] at this
  exact h.perm this
theorem _root_.Go.Vw.At.unpart {i : Nat} {x y : BL} (hi : L[i]? = some x) (h : At w0 D ((L.eraseIdx i).flatten ++ y) w) : At w0 D (L.set i y).flatten w := h.perm (flatten_set_perm y hi).symm
theorem _root_.Go.Vw.At.drop {i : Nat} {x : BL} (h : At w0 D L.flatten w) (hi : L[i]? = some x) : At w0 D (L.eraseIdx i).flatten w := (h.part hi).sub (List.sublist_append_left _ _)
theorem _root_.Go.Vw.At.blkP {i b : Nat} {c : List Value} (h : At w0 D L.flatten w) (hi : L[i]? = some [(b, c)]) : Blk w b c := (h.part hi).own (b, c) (by simp)
theorem _root_.Go.Vw.At.partBlk {i : Nat} {x : BL} (h : At w0 D L.flatten w) (hi : L[i]? = some x) : ∀ p ∈ x, Blk w p.1 p.2 := fun p hp => (h.part hi).own p (List.mem_append_right _ hp)
theorem _root_.Go.Vw.At.ldP {i b : Nat} {c : List Value} (h : At w0 D L.flatten w) (hi : L[i]? = some [(b, c)]) {k : Kd} {o : Nat} (x : Den k) {K : Den k → Prop} (hx : c[o]? = some (LV.mk k x).toV) (hK : K x) : Go.Vw.ld w k b o K :=
  ⟨x, by rw [(h.blkP hi).cell]; exact hx, hK⟩
theorem _root_.Go.Vw.At.ldDP {i b : Nat} {c : List Value} (h : At w0 D L.flatten w) (hi : L[i]? = some [(b, c)]) {E : Nat → Prop} {k : Kd} {o : Nat} (x : Den k) {K : Den k → Prop} (hE : ¬ E b) (hx : c[o]? = some (LV.mk k x).toV) (hK : K x) : Go.Vw.ldD E w k b o K :=
  ⟨x, hE, by rw [(h.blkP hi).cell]; exact hx, hK⟩
theorem _root_.Go.Vw.At.alP (h : At w0 D L.flatten w) {e : TypeId} {cs : List LV} {K : Nat → World → Prop} (hK : ∀ b w', b = w.heap.size → At w0 D (L ++ [[(b, cs.map LV.toV)]]).flatten w' → Mod (fun _ => False) w w' → K b w') : Go.Vw.al w e cs K := by
  refine h.alK fun b w' hb hA hM => hK b w' hb ?_ hM
  rw [List.flatten_append]; simpa using hA
theorem _root_.Go.Vw.At.stP {i b : Nat} {c : List Value} (h : At w0 D L.flatten w) (hi : L[i]? = some [(b, c)]) {o : Nat} {vs : List LV} (hl : o + vs.length ≤ c.length) {K : World → Prop} (hK : ∀ w', At w0 D (L.set i [(b, spl c o (vs.map LV.toV))]).flatten w' → Mod (fun k => k = b) w w' → K w') : st w b o vs K := by
  have h1 := h.part hi
  have hb : Blk w b c := h1.own (b, c) (by simp)
  refine ⟨fun j hj => ⟨⟨c[o + j]'(by omega), by rw [hb.cell, List.getElem?_eq_getElem]⟩, hb.frz _⟩, ?_⟩
  have h2 := h1.setCells (i := (L.eraseIdx i).flatten.length) (b := b) (c := c) (by simp) o (vs.map LV.toV)
  rw [set_last] at h2
  exact hK _ (Go.Vw.At.unpart hi h2) (Mod.setCells ..)
end
theorem step64' {i : Nat} (h : i ≤ 1099511627776) : w64 ((i : Int) + 1) = ((i + 1 : Nat) : Int) := by rw [w64_in (by omega) (by omega)]; omega
/-- an element is written -/
theorem _root_.Go.Vw.At.setL {α : Type} {w0 w : World} {D : Nat → Prop} {m ro : BL} (hA : At w0 D (m ++ ro) w) {E : Enc α} {s : Sl} {l : List α} (hv : VecL ro E s l) {k : Nat} (hk : k < l.length) {y : α} {vs : List LV} (hy : vs.map LV.toV = E.f y) {b o : Nat} (hp : s.p = some (b, o))
    {K : World → Prop} (hK : ∀ ro' w', At w0 D (m ++ ro') w' → VecL ro' E s (l.set k y) → Mod (Ks ro) w w' → K w') : st w b (o + k * E.n) vs K := by
  rcases hv.2.2 with ⟨_, h2, _⟩ | ⟨b', rest, rfl, hp', hc⟩
  · rw [h2] at hp; cases hp
  rw [hp'] at hp
  simp only [Option.some.injEq, Prod.mk.injEq] at hp
  obtain ⟨rfl, rfl⟩ := hp
  have hvl : (vs.map LV.toV).length = E.n := by rw [hy, E.len]
  have hset : spl (E.cells l ++ rest) (k * E.n + 0) (vs.map LV.toV) = E.cells (l.set k y) ++ rest := by
    refine E.cells_set l k 0 (vs.map LV.toV) l[k] y rest (List.getElem?_eq_getElem hk) (by omega) ?_
    have : ∀ a b : List Value, a.length = b.length → spl a 0 b = b := fun a b h => by
      rw [spl_eq _ _ _ (by omega)]; simp [h]
    rw [this _ _ (by rw [E.len, hvl]), hy]
  have hb : Blk w b' (E.cells l ++ rest) := hA.own (b', _) (by simp)
  have h2 := hA.setCells (i := m.length) (b := b') (c := E.cells l ++ rest) (by simp) (k * E.n + 0) (vs.map LV.toV)
  rw [hset, set_last] at h2
  have hle : (k + 1) * E.n ≤ l.length * E.n := Nat.mul_le_mul_right _ hk
  rw [Nat.add_mul] at hle
  rw [Nat.zero_add]
  refine ⟨fun j hj => ⟨⟨(E.cells l ++ rest)[k * E.n + j]'(by rw [List.length_append, E.cells_length]; rw [List.length_map] at hvl; omega), by rw [hb.cell, List.getElem?_eq_getElem]⟩, hb.frz _⟩, ?_⟩
  refine hK [(b', E.cells (l.set k y) ++ rest)] _ h2 ⟨by simp [hv.1], hv.2.1, .inr ⟨b', rest, rfl, hp', ?_⟩⟩ ((Mod.setCells ..).mono fun x _ e => ⟨_, List.mem_singleton.2 rfl, e.symm⟩)
  rw [List.length_append, E.cells_length] at hc ⊢; simpa using hc
/-- append, the old row kept where a new one is made -/
theorem appL2 {α : Type} {w0 w : World} {D : Nat → Prop} {m ro : BL} (hA : At w0 D (m ++ ro) w) {E : Enc α} {s x : Sl} {l l2 : List α} (hv : VecL ro E s l) (hr : RdS w E x l2) {e : TypeId} {n bytes : Nat} {zs : List LV} (hn : n = E.n) (hz : zs.length = E.n) (hlim : (l.length + l2.length + 1024) * (bytes + 1) ≤ 2 ^ 46)
    {K : Sl → World → Prop} (hK : ∀ s' old ro' w', At w0 D ((m ++ old) ++ ro') w' → VecL ro' E s' (l ++ l2) → Mod (Ks ro) w w' → (old = [] ∧ s'.p = s.p ∧ (s.p = none → ro' = ro) ∨ old = ro) → (∀ y, Ks ro' y → Ks ro y ∨ w.heap.size ≤ y) → K s' w') : ap w e n bytes zs s x K := by
  subst hn
  have hpos := E.pos
  refine ⟨E.cells l2, hr.cells (by rw [E.cells_length, hr.len]), E.cells_isCell l2, ?_, ?_, ?_⟩
  · intro hle hne
    rcases hv.2.2 with ⟨rfl, hn, hc0⟩ | ⟨b, rest, rfl, hp, hc⟩
    · rw [hc0] at hle; omega
    · have hlen : (E.cells l).length = s.len * E.n := by rw [E.cells_length, hv.1]
      have hfit : s.len * E.n + (E.cells l2).length ≤ (E.cells l ++ rest).length := by
        have : s.len * E.n + (E.cells l2).length ≤ s.cap * E.n := by
          rw [E.cells_length, ← hr.len, ← Nat.add_mul]; exact Nat.mul_le_mul_right _ hle
        omega
      have hspl : spl (E.cells l ++ rest) (s.len * E.n) (E.cells l2) = E.cells (l ++ l2) ++ rest.drop (E.cells l2).length := by
        rw [spl_eq _ _ _ hfit, ← hlen, List.take_left, List.drop_length_add_append, E.cells_append]
      have hi : (m ++ [(b, E.cells l ++ rest)])[m.length]? = some (b, E.cells l ++ rest) := by simp
      have hA' := hA.setCells hi (s.len * E.n) (E.cells l2)
      rw [hspl, set_last] at hA'
      have hb : Blk w b (E.cells l ++ rest) := hA.blk hi
      refine ⟨b, 0, hp, fun i hi => ⟨⟨(E.cells l ++ rest)[s.len * E.n + i]'(by rw [E.cells_length, ← hr.len] at hfit; omega), by rw [hb.cell, Nat.zero_add, List.getElem?_eq_getElem]⟩, hb.frz _⟩,
        hK _ [] [(b, E.cells (l ++ l2) ++ rest.drop (E.cells l2).length)] _ (by rw [Nat.zero_add, List.append_nil]; exact hA') ⟨by simp [hv.1, hr.len], by simpa using hle, .inr ⟨b, _, rfl, hp, ?_⟩⟩ ?_ (.inl ⟨rfl, rfl, fun h => by rw [hp] at h; cases h⟩) ?_⟩
      · rw [← hspl, spl_length]; exact hc
      · rw [Nat.zero_add]; exact (Mod.setCells ..).mono fun y _ e => ⟨_, List.mem_singleton.2 rfl, e.symm⟩
      · rintro y ⟨q, hq, rfl⟩
        simp at hq; subst hq
        exact .inl ⟨_, List.mem_singleton.2 rfl, rfl⟩
  · intro h0
    have h1 : l = [] := List.eq_nil_of_length_eq_zero (by have := hv.1; omega)
    have h2 : l2 = [] := List.eq_nil_of_length_eq_zero (by have := hr.len; omega)
    subst h1; subst h2
    have hs : (⟨s.p, 0, s.cap⟩ : Sl) = s := by have := hv.1; obtain ⟨p, len, cap⟩ := s; simp at this; subst this; rfl
    rw [hs]
    exact hK _ [] ro _ (by rw [List.append_nil]; exact hA) (by simpa using hv) (Mod.refl _ _) (.inl ⟨rfl, rfl, fun _ => rfl⟩) fun y h => .inl h
  · intro hlt
    refine ⟨by rw [hv.1, hr.len]; exact hlim, E.cells l, (hv.rd fun p hp => hA.own p (List.mem_append_right _ hp)).cells (by rw [E.cells_length, hv.1]), fun c hc => ?_⟩
    have hA' := (hA.drew.al (E.cells l ++ E.cells l2 ++ (List.replicate (c - (s.len + x.len)) (zs.map LV.toV)).flatten) e)
    refine hK _ ro [(w.drew.heap.size, E.cells (l ++ l2) ++ (List.replicate (c - (s.len + x.len)) (zs.map LV.toV)).flatten)] _ (by rw [E.cells_append]; exact hA') ⟨by simp [hv.1, hr.len], hc, .inr ⟨_, _, rfl, rfl, ?_⟩⟩ ((Mod.drew _ w).trans (Mod.alloc _ w.drew _) (fun _ _ h => h) (fun _ _ h => h)) (.inr rfl) ?_
    · simp only [List.length_append, E.cells_length, List.length_flatten, List.map_replicate, List.sum_replicate_nat, List.length_map, hz]
      rw [← Nat.add_mul, ← hr.len, ← hv.1]; exact Nat.mul_le_mul_right _ (by omega)
    · rintro y ⟨q, hq, rfl⟩
      simp at hq; subst hq
      exact .inr (Nat.le_refl _)
/-- a list that stands in a block, from its first cell on -/
def View {α : Type} (K : BL) (E : Enc α) (s : Sl) (l : List α) : Prop := s.len = l.length ∧ s.len ≤ s.cap ∧ (l = [] ∨ ∃ b c rest, (b, c) ∈ K ∧ s.p = some (b, 0) ∧ c = E.cells l ++ rest)
theorem View.rd {α : Type} {K : BL} {E : Enc α} {s : Sl} {l : List α} (h : View K E s l) {w : World} (hb : ∀ p ∈ K, Blk w p.1 p.2) : RdS w E s l := by
  refine ⟨h.1, ?_, h.2.1⟩
  rcases h.2.2 with h | ⟨b, c, rest, hm, hp, hc⟩
  · left; rw [h]; rfl
  · refine .inr ⟨b, 0, hp, fun i hi => ?_⟩
    rw [(hb (b, c) hm).cell, Nat.zero_add, hc, List.getElem?_append_left hi]
theorem View.mono {α : Type} {K K' : BL} {E : Enc α} {s : Sl} {l : List α} (h : View K E s l) (hs : ∀ p ∈ K, p ∈ K') : View K' E s l :=
  ⟨h.1, h.2.1, h.2.2.imp id fun ⟨b, c, rest, hm, hp, hc⟩ => ⟨b, c, rest, hs _ hm, hp, hc⟩⟩
theorem VecL.view {α : Type} {ro : BL} {E : Enc α} {s : Sl} {l : List α} (h : VecL ro E s l) : View ro E s l := by
  refine ⟨h.1, h.2.1, ?_⟩
  rcases h.2.2 with ⟨rfl, _, _⟩ | ⟨b, rest, rfl, hp, _⟩
  · exact .inl h.l_nil
  · exact .inr ⟨b, _, rest, List.mem_singleton.2 rfl, hp, rfl⟩
/-- a slice whose row another has gone on in -/
theorem VecL.viewOf {α : Type} {ro : BL} {E : Enc α} {s t : Sl} {l l2 : List α} (h : VecL ro E s (l ++ l2)) (ht : t.len = l.length) (hc : t.len ≤ t.cap) (hp : t.p = s.p) : View ro E t l := by
  refine ⟨ht, hc, ?_⟩
  rcases h.2.2 with ⟨rfl, _, _⟩ | ⟨b, rest, rfl, hp', _⟩
  · left; have := h.l_nil; exact (List.append_eq_nil_iff.1 this).1
  · exact .inr ⟨b, _, E.cells l2 ++ rest, List.mem_singleton.2 rfl, hp.trans hp', by rw [E.cells_append, List.append_assoc]⟩
theorem fill_loop {α : Type} {w0 w : World} {D : Nat → Prop} {m ro : BL} (hA : At w0 D (m ++ ro) w) {E : Enc α} {s : Sl} {l : List α} (hv : VecL ro E s l) {y : α} {vs : List LV} (hy : vs.map LV.toV = E.f y) {n : Nat} (hn : n = E.n) (hl : l.length ≤ 1099511627776) {k : World → Prop}
    (hk : ∀ ro' w', At w0 D (m ++ ro') w' → VecL ro' E s (List.replicate l.length y) → k w') :
    loopL [.int .i64] (fun (i : Int) w again => ifK (decide (i < (s.len : Int))) (ix s n i fun b o => st w b o vs fun w' => again (w64 (i + 1)) w') (k w)) [.int .i64 0] w := by
  subst hn
  refine loop1 (k := .int .i64) (fun (i : Int) u => ∃ (j : Nat) (ro' : BL), i = j ∧ j ≤ l.length ∧ At w0 D (m ++ ro') u ∧ VecL ro' E s (List.replicate j y ++ l.drop j)) (fun i _ => (l.length - i).toNat) (x := 0) rfl ⟨0, ro, rfl, by omega, hA, by simpa using hv⟩ ?_
  rintro i u ⟨j, ro', rfl, hj, hA1, hv1⟩
  rw [hv.1]
  refine ifK_intro (fun h => ?_) fun h => ?_
  · have hlt : j < l.length := dlt h
    have hcur : (List.replicate j y ++ l.drop j).length = l.length := by simp; omega
    have hrd := hv1.rd fun p hp => hA1.own p (List.mem_append_right _ hp)
    have hget : (List.replicate j y ++ l.drop j)[j]? = some l[j] := by
      rw [List.getElem?_append_right (by simp)]; simp [List.getElem?_eq_getElem hlt]
    obtain ⟨b, o, hp, hlt2, _⟩ := hrd.at hget
    refine ix_some hp (by omega) (by rw [hv.1]; omega) ?_ hv.2.1
    refine hA1.setL hv1 (k := j) (by omega) hy hp fun ro2 w2 hA2 hv2 _ => ⟨⟨j + 1, ro2, step64' (by omega), by omega, hA2, ?_⟩, ?_⟩
    · have : (List.replicate j y ++ l.drop j).set j y = List.replicate (j + 1) y ++ l.drop (j + 1) := by
        have hlen : j < (List.replicate j y ++ l.drop j).length := by omega
        apply List.ext_getElem?
        intro i
        rw [List.getElem?_set]
        by_cases h1 : j = i
        · subst h1
          rw [if_pos rfl, if_pos hlen, List.getElem?_append_left (by simp), List.getElem?_replicate, if_pos (by omega)]
        · rw [if_neg h1]
          by_cases h2 : i < j
          · rw [List.getElem?_append_left (by simpa using h2), List.getElem?_append_left (by simp; omega), List.getElem?_replicate, List.getElem?_replicate, if_pos h2, if_pos (by omega)]
          · rw [List.getElem?_append_right (by simp; omega), List.getElem?_append_right (by simp; omega)]
            simp only [List.length_replicate, List.getElem?_drop]
            congr 1; omega
      rw [← this]; exact hv2
    · rw [step64' (by omega)]; omega
  · have hlt : l.length ≤ j := dge h
    have : j = l.length := by omega
    subst this
    rw [List.drop_length, List.append_nil] at hv1
    exact hk ro' u hA1 hv1
theorem grow_loop {α : Type} {w0 w : World} {D : Nat → Prop} {m ro : BL} (hA : At w0 D (m ++ ro) w) {E : Enc α} {s : Sl} {l : List α} (hv : VecL ro E s l) {y : α} {vs : List LV} (hy : vs.map LV.toV = E.f y) {n : Nat} (hn : n = E.n) {e bytes : Nat} {zs : List LV} (hz : zs.length = E.n) (hlim : (l.length + 2048) * (bytes + 1) ≤ 2 ^ 46) {k : Sl → World → Prop}
    (hk : ∀ s' old ro' w', At w0 D ((m ++ old) ++ ro') w' → VecL ro' E s' (l ++ List.replicate 64 y) → View (old ++ ro') E s l → k s' w') :
    loopL [.sl, .int .i64] (fun (t : Sl) (i : Int) w again => ifK (decide (i < 64)) (al w e vs fun b w' => ap w' e n bytes zs t ⟨some (b, 0), 1, 1⟩ fun t' w'' => again t' (w64 (i + 1)) w'') (k t w)) [.sl s, .int .i64 0] w := by
  subst hn
  refine loop2 (k1 := .sl) (k2 := .int .i64) (fun (t : Sl) (i : Int) u => ∃ (j : Nat) (old ro' : BL), i = j ∧ j ≤ 64 ∧ At w0 D ((m ++ old) ++ ro') u ∧ VecL ro' E t (l ++ List.replicate j y) ∧ (View old E s l ∨ s.p = t.p)) (fun _ i _ => (64 - i).toNat) (x1 := s) (x2 := 0) rfl rfl
    ⟨0, [], ro, rfl, by omega, by rw [List.append_nil]; exact hA, by simpa using hv, .inr rfl⟩ ?_
  rintro t i u ⟨j, old, ro', rfl, hj, hA1, hv1, hV⟩
  refine ifK_intro (fun h => ?_) fun h => ?_
  · have hlt : j < 64 := by have h : (j : Int) < 64 := of_decide_eq_true h; omega
    refine hA1.alK fun b w2 hb hA2 hM2 => ?_
    have hbl : Blk w2 b (E.f y) := by have := hA2.own (b, vs.map LV.toV) (by simp); rw [hy] at this; exact this
    have hA3 : At w0 D ((m ++ old) ++ ro') w2 := hA2.sub (List.sublist_append_left _ _)
    refine appL2 hA3 hv1 (rd_one hbl) rfl hz (by
      have : (l ++ List.replicate j y).length + [y].length + 1024 ≤ l.length + 2048 := by simp; omega
      exact Nat.le_trans (Nat.mul_le_mul_right _ this) hlim) fun t' old' ro2 w3 hA4 hv4 _ hcase _ => ?_
    refine ⟨⟨j + 1, old ++ old', ro2, step64' (by omega), by omega, by rw [← List.append_assoc]; exact hA4, ?_, ?_⟩, ?_⟩
    · rw [List.append_assoc, ← List.replicate_succ'] at hv4
      exact hv4
    · rcases hcase with ⟨rfl, hp, _⟩ | rfl
      · rcases hV with hV | hV
        · exact .inl (by rw [List.append_nil]; exact hV)
        · exact .inr (hV.trans hp.symm)
      · left
        rcases hV with hV | hV
        · exact hV.mono fun p hp => List.mem_append_left _ hp
        · exact (hv1.viewOf hv.1 hv.2.1 hV).mono fun p hp => List.mem_append_right _ hp
    · rw [step64' (by omega)]; omega
  · have hj2 : j = 64 := by have h : ¬ (j : Int) < 64 := of_decide_eq_false h; omega
    subst hj2
    refine hk t old ro' u hA1 hv1 ?_
    rcases hV with hV | hV
    · exact hV.mono fun p hp => List.mem_append_left _ hp
    · exact (hv1.viewOf hv.1 hv.2.1 hV).mono fun p hp => List.mem_append_right _ hp
theorem step64 {i : Nat} (h : i ≤ 1099511627776) : w64 ((i : Int) + 1) = ((i + 1 : Nat) : Int) := by rw [w64_in (by omega) (by omega)]; omega
theorem mod_drew (w : World) : Mod F0 w w.drew := Mod.drew F0 w
end Go.Proofs.YtjldecomhpngmaaDoor
