/- Slices: lists of things that lie in a row of cells; appending. -/
import Derived.Test.YtfhojgammfkabaaL0
namespace Go.Vw

/-- how a thing lies in cells -/
structure Enc (α : Type) where
  n : Nat
  f : α → List Value
  len : ∀ x, (f x).length = n
  pos : 0 < n
  cell : ∀ x, ∀ v ∈ f x, isCell v = true
def Enc.cells {α : Type} (E : Enc α) : List α → List Value
  | [] => []
  | x :: l => E.f x ++ E.cells l
theorem Enc.cells_length {α : Type} (E : Enc α) : ∀ l : List α, (E.cells l).length = l.length * E.n
  | [] => by simp [Enc.cells]
  | x :: l => by simp [Enc.cells, E.len, E.cells_length l, Nat.add_mul, Nat.add_comm]
theorem Enc.cells_append {α : Type} (E : Enc α) : ∀ l l' : List α, E.cells (l ++ l') = E.cells l ++ E.cells l'
  | [], l' => rfl
  | x :: l, l' => by simp [Enc.cells, E.cells_append l l']
theorem Enc.cells_get {α : Type} (E : Enc α) : ∀ (l : List α) (i j : Nat), j < E.n → (E.cells l)[i * E.n + j]? = l[i]?.bind fun x => (E.f x)[j]?
  | [], i, j, _ => by simp [Enc.cells]
  | x :: l, 0, j, h => by
    simp only [Enc.cells, Nat.zero_mul, Nat.zero_add]
    rw [List.getElem?_append_left (by rw [E.len]; exact h)]; rfl
  | x :: l, i + 1, j, h => by
    simp only [Enc.cells]
    rw [List.getElem?_append_right (by rw [E.len, Nat.add_mul]; omega), E.len, List.getElem?_cons_succ, ← E.cells_get l i j h]
    congr 1
    rw [Nat.add_mul]; omega
theorem Enc.cells_isCell {α : Type} (E : Enc α) : ∀ l : List α, ∀ v ∈ E.cells l, isCell v = true
  | [], v, h => by simp [Enc.cells] at h
  | x :: l, v, h => by
    simp only [Enc.cells, List.mem_append] at h
    rcases h with h | h
    · exact E.cell x v h
    · exact E.cells_isCell l v h
theorem Enc.cells_take {α : Type} (E : Enc α) (l : List α) (k : Nat) : (E.cells l).take (k * E.n) = E.cells (l.take k) := by
  by_cases hk : k ≤ l.length
  · have h1 : E.cells l = E.cells (l.take k) ++ E.cells (l.drop k) := by rw [← E.cells_append, List.take_append_drop]
    rw [h1, List.take_append_of_le_length (by rw [E.cells_length]; simp; rw [Nat.min_eq_left hk]; exact Nat.le_refl _)]
    rw [List.take_of_length_le (by rw [E.cells_length]; simp; rw [Nat.min_eq_left hk]; exact Nat.le_refl _)]
  · rw [List.take_of_length_le (by rw [E.cells_length]; exact Nat.mul_le_mul_right _ (by omega)), List.take_of_length_le (by omega)]
/-- writing over from a place -/
theorem spl_eq : ∀ (vs c : List Value) (o : Nat), o + vs.length ≤ c.length → spl c o vs = c.take o ++ vs ++ c.drop (o + vs.length)
  | [], c, o, _ => by simp [spl]
  | v :: r, c, o, h => by
    simp only [spl]
    rw [spl_eq r (c.set o v) (o + 1) (by simp at h ⊢; omega)]
    have ho : o < c.length := by simp at h; omega
    have h1 : (c.set o v).take (o + 1) = c.take o ++ [v] := by
      rw [List.set_eq_take_append_cons_drop, if_pos ho]
      rw [List.take_append, List.take_of_length_le (by simp; omega)]
      have : o + 1 - (c.take o).length = 1 := by simp; omega
      rw [this]; simp
    have h2 : (c.set o v).drop (o + 1 + r.length) = c.drop (o + (v :: r).length) := by
      have : o + (v :: r).length = o + 1 + r.length := by simp; omega
      rw [this, List.drop_set_of_lt (by omega)]
    rw [h1, h2]; simp
/-- an element that is written, in whole or in part -/
theorem Enc.cells_set {α : Type} (E : Enc α) : ∀ (l : List α) (i j : Nat) (vs : List Value) (x y : α) (rest : List Value), l[i]? = some x → j + vs.length ≤ E.n → spl (E.f x) j vs = E.f y →
    spl (E.cells l ++ rest) (i * E.n + j) vs = E.cells (l.set i y) ++ rest
  | [], i, j, vs, x, y, rest, h, _, _ => by simp at h
  | z :: l, 0, j, vs, x, y, rest, h, hj, hs => by
    simp at h; subst h
    simp only [Enc.cells, List.set_cons_zero, Nat.zero_mul, Nat.zero_add, List.append_assoc]
    rw [spl_eq _ _ _ (by simp [E.len]; omega)]
    rw [← hs, spl_eq _ _ _ (by rw [E.len]; exact hj)]
    rw [List.take_append_of_le_length (by rw [E.len]; omega), List.drop_append_of_le_length (by rw [E.len]; omega)]
    simp
  | z :: l, i + 1, j, vs, x, y, rest, h, hj, hs => by
    have ih := E.cells_set l i j vs x y rest (by simpa using h) hj hs
    simp only [Enc.cells, List.set_cons_succ, List.append_assoc]
    rw [← ih]
    have hi : i < l.length := by simp at h; exact (List.getElem?_eq_some_iff.1 h).1
    have hle : i * E.n + j + vs.length ≤ (E.cells l ++ rest).length := by
      simp only [List.length_append, E.cells_length]
      have : (i + 1) * E.n ≤ l.length * E.n := Nat.mul_le_mul_right _ hi
      rw [Nat.add_mul] at this; omega
    have hm : (i + 1) * E.n + j = E.n + (i * E.n + j) := by rw [Nat.add_mul]; omega
    rw [hm, spl_eq _ _ _ (by simp only [List.length_append, E.len] at hle ⊢; omega), spl_eq _ _ _ hle]
    have h1 : ∀ (k : Nat), (E.f z ++ (E.cells l ++ rest)).take (E.n + k) = E.f z ++ (E.cells l ++ rest).take k := fun k => by
      rw [← E.len z, List.take_length_add_append]
    have h2 : ∀ (k : Nat), (E.f z ++ (E.cells l ++ rest)).drop (E.n + k) = (E.cells l ++ rest).drop k := fun k => by
      rw [← E.len z, List.drop_length_add_append]
    rw [h1, Nat.add_assoc E.n, h2]
    simp

/-! ### slices that are read -/
def Rd (w : World) (p : PA) (c : List Value) : Prop := c = [] ∨ ∃ b o, p = some (b, o) ∧ ∀ i, i < c.length → w.cell? ⟨b, o + i, none⟩ = c[i]?
/-- the block of a slice -/
def bk (s : Sl) (b : Nat) : Prop := ∃ o, s.p = some (b, o)
/-- the block of a slice that can be read -/
def rk (s : Sl) (b : Nat) : Prop := s.cap ≠ 0 ∧ bk s b
structure RdS {α : Type} (w : World) (E : Enc α) (s : Sl) (l : List α) : Prop where
  len : s.len = l.length
  rd : Rd w s.p (E.cells l)
  has : s.len ≤ s.cap
theorem Rd.keep {w w' : World} {p : PA} {c : List Value} (h : Rd w p c) {D : Nat → Prop} (hM : Mod D w w') (hd : ∀ b o, p = some (b, o) → ¬ D b) : Rd w' p c := by
  rcases h with h | ⟨b, o, hp, h⟩
  · exact .inl h
  · refine .inr ⟨b, o, hp, fun i hi => ?_⟩
    have := h i hi
    rw [List.getElem?_eq_getElem hi] at this ⊢
    exact hM.cell this (hd b o hp)
theorem RdS.keep {α : Type} {w w' : World} {E : Enc α} {s : Sl} {l : List α} (h : RdS w E s l) {D : Nat → Prop} (hM : Mod D w w') (hd : ∀ b, rk s b → ¬ D b) : RdS w' E s l := by
  refine ⟨h.len, ?_, h.has⟩
  by_cases hc : s.cap = 0
  · have h1 := h.len
    have h2 := h.has
    have : l = [] := List.eq_nil_of_length_eq_zero (by omega)
    left; rw [this]; rfl
  · exact h.rd.keep hM fun b o hp => hd b ⟨hc, o, hp⟩
theorem RdS.at {α : Type} {w : World} {E : Enc α} {s : Sl} {l : List α} (h : RdS w E s l) {i : Nat} {x : α} (hi : l[i]? = some x) : ∃ b o, s.p = some (b, o) ∧ i < s.len ∧ ∀ j, j < E.n → w.cell? ⟨b, o + i * E.n + j, none⟩ = (E.f x)[j]? := by
  have hlt : i < l.length := (List.getElem?_eq_some_iff.1 hi).1
  have hle : (i + 1) * E.n ≤ l.length * E.n := Nat.mul_le_mul_right _ hlt
  rw [Nat.add_mul] at hle
  have hp := E.pos
  rcases h.rd with hc | ⟨b, o, hb, hr⟩
  · have := congrArg List.length hc
    rw [E.cells_length] at this
    simp only [List.length_nil] at this
    omega
  · refine ⟨b, o, hb, by rw [h.len]; exact hlt, fun j hj => ?_⟩
    rw [Nat.add_assoc, hr _ (by rw [E.cells_length]; omega), E.cells_get l i j hj, hi]; rfl
/-- a place in a slice that is read -/
theorem RdS.ix {α : Type} {w : World} {E : Enc α} {s : Sl} {l : List α} (h : RdS w E s l) {n : Nat} (hn : n = E.n) {i : Int} {k : Nat} (hk : i = (k : Int)) {x : α} (hx : l[k]? = some x) {K : Nat → Nat → Prop}
    (hK : ∀ b o, rk s b → (∀ j, j < E.n → w.cell? ⟨b, o + j, none⟩ = (E.f x)[j]?) → K b o) : Go.Vw.ix s n i K := by
  obtain ⟨b, o, hp, hlt, hr⟩ := h.at hx
  subst hn; subst hk
  exact ⟨b, o, hp, by have := h.has; omega, by omega, by omega, hK _ _ ⟨by have := h.has; omega, o, hp⟩ (by simpa using hr)⟩
theorem RdS.cells {α : Type} {w : World} {E : Enc α} {s : Sl} {l : List α} (h : RdS w E s l) {n : Nat} (hn : (E.cells l).length = n) : rdCells w s n (E.cells l) := by
  refine ⟨hn, ?_⟩
  have hh := h.has
  rw [h.len] at hh
  rcases h.rd with h | ⟨b, o, hp, h⟩
  · left; rw [← hn, h]; rfl
  · by_cases hl : l = []
    · left; rw [← hn, hl]; rfl
    · have := List.length_pos_iff.2 hl
      exact .inr ⟨b, o, hp, by omega, fun i hi => h i (by omega)⟩

/-! ### slices that are one's own -/
structure Vec {α : Type} (w : World) (E : Enc α) (s : Sl) (l : List α) : Prop where
  len : s.len = l.length
  own : (s.p = none ∧ s.cap = 0 ∧ l = []) ∨ ∃ b rest, s.p = some (b, 0) ∧ Blk w b (E.cells l ++ rest) ∧ (E.cells l ++ rest).length = s.cap * E.n
theorem Vec.nil {α : Type} (w : World) (E : Enc α) : Vec w E ⟨none, 0, 0⟩ [] := ⟨rfl, .inl ⟨rfl, rfl, rfl⟩⟩
theorem Vec.keep {α : Type} {w w' : World} {E : Enc α} {s : Sl} {l : List α} (h : Vec w E s l) {D : Nat → Prop} (hM : Mod D w w') (hd : ∀ b, bk s b → ¬ D b) : Vec w' E s l := by
  refine ⟨h.len, ?_⟩
  rcases h.own with h | ⟨b, rest, hp, hb, hc⟩
  · exact .inl h
  · exact .inr ⟨b, rest, hp, hM.blk hb (hd b ⟨0, hp⟩), hc⟩
theorem Vec.rd {α : Type} {w : World} {E : Enc α} {s : Sl} {l : List α} (h : Vec w E s l) : RdS w E s l := by
  refine ⟨h.len, ?_, ?_⟩
  · rcases h.own with ⟨_, _, hl⟩ | ⟨b, rest, hp, hb, hc⟩
    · left; rw [hl]; rfl
    · refine .inr ⟨b, 0, hp, fun i hi => ?_⟩
      rw [hb.cell, Nat.zero_add, List.getElem?_append_left hi]
  · rw [h.len]
    rcases h.own with ⟨_, _, hl⟩ | ⟨b, rest, hp, hb, hc⟩
    · rw [hl]; exact Nat.zero_le _
    · rw [List.length_append, E.cells_length] at hc
      exact Nat.le_of_mul_le_mul_right (by omega) E.pos
theorem Vec.lt {α : Type} {w : World} {E : Enc α} {s : Sl} {l : List α} (h : Vec w E s l) {b : Nat} (hb : bk s b) : b < w.heap.size := by
  obtain ⟨o, hp⟩ := hb
  rcases h.own with ⟨hn, _, _⟩ | ⟨b', rest, hp', hb, hc⟩
  · rw [hn] at hp; cases hp
  · rw [hp'] at hp; cases hp; exact hb.lt
/-- an element is written -/
theorem Vec.set {α : Type} {w : World} {E : Enc α} {s : Sl} {l : List α} (h : Vec w E s l) {k : Nat} {x y : α} (hx : l[k]? = some x) {b o : Nat} (hp : s.p = some (b, o)) {j : Nat} {vs : List LV} (hj : j + vs.length ≤ E.n) (hs : spl (E.f x) j (vs.map LV.toV) = E.f y)
    {K : World → Prop} (hK : ∀ w', Vec w' E s (l.set k y) → Mod (bk s) w w' → K w') : st w b (o + k * E.n + j) vs K := by
  rcases h.own with ⟨hn, _, _⟩ | ⟨b', rest, hp', hb, hc⟩
  · rw [hn] at hp; cases hp
  · rw [hp'] at hp; cases hp
    have hset := E.cells_set l k j (vs.map LV.toV) x y rest hx (by simpa using hj) hs
    have hlt : k < l.length := (List.getElem?_eq_some_iff.1 hx).1
    have hle : (k + 1) * E.n ≤ l.length * E.n := Nat.mul_le_mul_right _ hlt
    rw [Nat.add_mul] at hle
    have hb2 := hb.setCells (vs.map LV.toV) (o := k * E.n + j)
    rw [hset] at hb2
    rw [Nat.zero_add]
    refine ⟨fun i hi => ⟨?_, hb.frz _⟩, hK _ ⟨by simp [h.len], .inr ⟨b, rest, hp', hb2, ?_⟩⟩ ((Mod.setCells ..).mono fun x _ e => by subst e; exact ⟨0, hp'⟩)⟩
    · refine ⟨(E.cells l ++ rest)[k * E.n + j + i]'(by rw [List.length_append, E.cells_length]; omega), ?_⟩
      rw [hb.cell, List.getElem?_eq_getElem]
    · rw [← hc]; simp [E.cells_length]
/-- append -/
theorem Vec.app {α : Type} {w : World} {E : Enc α} {s x : Sl} {l l2 : List α} (h : Vec w E s l) (hr : RdS w E x l2) {e : TypeId} {n bytes : Nat} {zs : List LV} (hn : n = E.n) (hz : zs.length = E.n) (hlim : (l.length + l2.length + 1024) * (bytes + 1) ≤ 2 ^ 46)
    {K : Sl → World → Prop} (hK : ∀ s' w', Vec w' E s' (l ++ l2) → (∀ b, bk s' b → bk s b ∨ w.heap.size ≤ b) → Mod (bk s) w w' → (s'.p = s.p ∧ s'.cap = s.cap ∨ (∃ b, s'.p = some (b, 0) ∧ w.heap.size ≤ b) ∧ Mod (fun _ => False) w w') → K s' w') : ap w e n bytes zs s x K := by
  subst hn
  have hpos := E.pos
  refine ⟨E.cells l2, hr.cells (by rw [E.cells_length, hr.len]), E.cells_isCell l2, ?_, ?_, ?_⟩
  · intro hle hne
    rcases h.own with ⟨hn, hc0, hl⟩ | ⟨b, rest, hp, hb, hc⟩
    · rw [hc0] at hle; omega
    · have hlen : (E.cells l).length = s.len * E.n := by rw [E.cells_length, h.len]
      have hfit : s.len * E.n + (E.cells l2).length ≤ (E.cells l ++ rest).length := by
        rw [hc, E.cells_length, ← hr.len, ← Nat.add_mul]; exact Nat.mul_le_mul_right _ hle
      have hspl : spl (E.cells l ++ rest) (s.len * E.n) (E.cells l2) = E.cells (l ++ l2) ++ rest.drop (E.cells l2).length := by
        rw [spl_eq _ _ _ hfit, ← hlen, List.take_left, List.drop_length_add_append, E.cells_append]
      have hb2 := hb.setCells (E.cells l2) (o := s.len * E.n)
      rw [hspl] at hb2
      refine ⟨b, 0, hp, fun i hi => ⟨?_, hb.frz _⟩, hK _ _ ⟨by simp [h.len, hr.len], .inr ⟨b, _, hp, by rw [Nat.zero_add]; exact hb2, ?_⟩⟩ (fun b' hb' => .inl hb') ((Mod.setCells ..).mono fun x _ e => by subst e; exact ⟨0, hp⟩) (.inl ⟨rfl, rfl⟩)⟩
      · refine ⟨(E.cells l ++ rest)[s.len * E.n + i]'(by rw [E.cells_length, ← hr.len] at hfit; omega), ?_⟩
        rw [hb.cell, Nat.zero_add, List.getElem?_eq_getElem]
      · rw [← hspl]; simp [hc]
  · intro h0
    have h1 : l = [] := by have := h.len; cases l with | nil => rfl | cons => simp at this; omega
    have h2 : l2 = [] := by have := hr.len; cases l2 with | nil => rfl | cons => simp at this; omega
    subst h1; subst h2
    have hs : (⟨s.p, 0, s.cap⟩ : Sl) = s := by have := h.len; obtain ⟨p, len, cap⟩ := s; simp at this; subst this; rfl
    rw [hs]
    exact hK _ _ (by simpa using h) (fun b hb => .inl hb) (Mod.refl _ _) (.inl ⟨rfl, rfl⟩)
  · intro hlt
    refine ⟨by rw [h.len, hr.len]; exact hlim, E.cells l, h.rd.cells (by rw [E.cells_length, h.len]), fun c hc => ?_⟩
    refine hK _ _ ⟨by simp [h.len, hr.len], .inr ⟨w.heap.size, (List.replicate (c - (s.len + x.len)) (zs.map LV.toV)).flatten, rfl, ?_, ?_⟩⟩ (fun b hb => .inr ?_) ?_ (.inr ⟨⟨w.heap.size, rfl, Nat.le_refl _⟩, ?_⟩)
    · rw [E.cells_append]; exact Blk.new w.drew _ _
    · simp only [List.length_append, E.cells_length, List.length_flatten, List.map_replicate, List.sum_replicate_nat, List.length_map, hz]
      rw [← Nat.add_mul, ← hr.len, ← h.len]; congr 1; omega
    · obtain ⟨o, hb⟩ := hb; cases hb; exact Nat.le_refl _
    · exact (Mod.drew _ w).trans (Mod.alloc (bk s) w.drew _) (fun _ _ h => h) (fun _ _ h => h)
    · exact (Mod.drew _ w).trans (Mod.alloc (fun _ => False) w.drew _) (fun _ _ h => h) (fun _ _ h => h)
/-- make -/
theorem Vec.mkK {α : Type} {w : World} (E : Enc α) (z : α) {e : TypeId} {bytes : Nat} {zs : List LV} {n : Int} (k : Nat) (hk : n = (k : Int)) (hz : zs.map LV.toV = E.f z) (h1 : k < 2 ^ 48) (h2 : bytes * k ≤ 2 ^ 47)
    {K : Sl → World → Prop} (hK : ∀ w', Vec w' E ⟨some (w.heap.size, 0), k, k⟩ (List.replicate k z) → Blk w' w.heap.size (E.cells (List.replicate k z)) → Mod (fun _ => False) w w' → K ⟨some (w.heap.size, 0), k, k⟩ w') : Go.Vw.mk w e bytes zs n n K := by
  subst hk
  have hc : ∀ m : Nat, (List.replicate m (zs.map LV.toV)).flatten = E.cells (List.replicate m z) := by
    intro m
    induction m with
    | zero => rfl
    | succ m ih => rw [hz] at ih; simp only [List.replicate_succ, List.flatten_cons, Enc.cells, hz, ih]
  refine ⟨by omega, Int.le_refl _, by exact_mod_cast h1, by exact_mod_cast h2, ?_⟩
  have hb := Blk.new w (List.replicate k (zs.map LV.toV)).flatten e
  rw [hc] at hb
  refine hK _ ⟨by simp, .inr ⟨_, [], rfl, ?_, ?_⟩⟩ ?_ (Mod.alloc _ _ _)
  · rw [List.append_nil]; simp only [Int.toNat_natCast]; rw [hc]; exact hb
  · simp [E.cells_length]
  · simp only [Int.toNat_natCast]; rw [hc]; exact hb
end Go.Vw
