/- Rules for blocks, slices, loops that name no program. (printed by tools/genlb.py out of the merge's texts) -/
import Derived.Test.YtjefbjfifjjpmafGreatDoorLA
namespace Go.Proofs.YtjefbjfifjjpmafGreatDoor
open Go.Vw
abbrev Str := List UInt8
def EI : Enc Int := ⟨1, fun x => [.int .i64 x], fun _ => rfl, by decide, fun x v h => by simp at h; subst h; rfl⟩
def EB : Enc Bool := ⟨1, fun x => [.bool x], fun _ => rfl, by decide, fun x v h => by simp at h; subst h; rfl⟩
def EF : Enc Value := ⟨1, fun v => [if isCell v then v else .nilFunc], fun _ => rfl, by decide, fun x v h => by simp at h; subst h; split <;> first | assumption | rfl⟩
def getB (l : List Bool) (i : Nat) : Bool := l[i]?.getD false
theorem getB_at {l : List Bool} {i : Nat} (h : i < l.length) : l[i]? = some (getB l i) := by simp [getB, h]
theorem _root_.Go.Vw.At.lt {w0 w : World} {D : Nat → Prop} {m : List (Nat × List Value)} (hA : At w0 D m w) : ∀ p ∈ m, p.1 < w.heap.size := fun p hp => (hA.own p hp).lt
def upd {α : Type} (s : Nat → α) (i : Nat) (x : α) : Nat → α := fun j => if j = i then x else s j
@[simp] theorem upd_same {α : Type} (s : Nat → α) (i : Nat) (x : α) : upd s i x i = x := by simp [upd]
theorem upd_ne {α : Type} (s : Nat → α) {i j : Nat} (x : α) (h : j ≠ i) : upd s i x j = s j := by simp [upd, h]
theorem getB_set {l : List Bool} {i j : Nat} {x : Bool} (h : i < l.length) : getB (l.set i x) j = if j = i then x else getB l j := by
  unfold getB; rw [List.getElem?_set]
  by_cases e : j = i
  · subst e; simp [h]
  · rw [if_neg (fun h => e h.symm), if_neg e]
theorem _root_.Go.Vw.At.perm {w0 w : World} {D : Nat → Prop} {m m' : List (Nat × List Value)} (h : At w0 D m w) (hp : m'.Perm m) : At w0 D m' w :=
  ⟨h.mod, fun p hpp => h.own p (hp.subset hpp), (hp.map Prod.fst).nodup_iff.2 h.nodup, fun p hpp => h.wr p (hp.subset hpp)⟩
theorem _root_.Go.Vw.At.mkAdd {w0 w w' : World} {D : Nat → Prop} {m : List (Nat × List Value)} (h : At w0 D m w) {b : Nat} {c : List Value} (hM : Mod (fun _ => False) w w') (hb : Blk w' b c) (hf : w.heap.size ≤ b) : At w0 D (m ++ [(b, c)]) w' :=
  (h.keep0 hM fun _ => id).add hb (fun p hp e => by have := (h.own p hp).lt; omega) fun hlt => absurd hlt (by have := h.mod.size; omega)
def isFn (v : Value) : Prop := ∃ f a c, v = .func f a c
theorem isFn.cell {v : Value} (h : isFn v) : isCell v = true := by obtain ⟨f, a, c, rfl⟩ := h; rfl
theorem EF_f {v : Value} (h : isFn v) : EF.f v = [v] := by unfold EF; simp [h.cell]
theorem nilF_fn {v : Value} (h : isFn v) {K : Bool → Prop} (hK : K false) : nilF v K := by obtain ⟨f, a, c, rfl⟩ := h; exact .inr ⟨f, a, c, rfl, hK⟩
theorem cells_repl {α : Type} (E : Enc α) (n : Nat) (x : α) (l : List Value) (h : l = E.f x) : (List.replicate n l).flatten = E.cells (List.replicate n x) := by
  subst h
  induction n with
  | zero => rfl
  | succ n ih => simp only [List.replicate_succ, List.flatten_cons, Enc.cells, ih]
def EP : Enc PA := ⟨1, fun p => [(LV.ptr p).toV], fun _ => rfl, by decide, fun x v h => by simp at h; subst h; rfl⟩
theorem rd_one {α : Type} {w : World} {E : Enc α} {b : Nat} {x : α} (h : Blk w b (E.f x)) : RdS w E ⟨some (b, 0), 1, 1⟩ [x] :=
  ⟨rfl, .inr ⟨b, 0, rfl, fun i hi => by rw [h.cell, Nat.zero_add]; simp [Enc.cells]⟩, Nat.le_refl _⟩
theorem _root_.Go.Vw.At.rebase {w0 w1 w2 : World} {m : List (Nat × List Value)} (h : At w1 (fun _ => False) m w2) (hM : Mod (fun _ => False) w0 w1) : At w0 (fun _ => False) m w2 :=
  ⟨hM.trans h.mod (fun _ _ h => h) (fun _ _ h => h), h.own, h.nodup, fun p hp hlt => h.wr p hp (Nat.lt_of_lt_of_le hlt hM.size)⟩
theorem cut_rd {α : Type} {w : World} {E : Enc α} {a : Sl} {xs ys : List α} (h : Vec w E a (xs ++ ys)) (hy : ys ≠ []) {K : Sl → Prop} (hK : ∀ s, RdS w E s xs → K s) : slx a E.n none (some (xs.length : Int)) none K := by
  have hlen := h.len
  simp only [List.length_append] at hlen
  have hyl : 0 < ys.length := List.length_pos_iff.2 hy
  have hpos := E.pos
  rcases h.own with ⟨_, _, hl⟩ | ⟨b, rest, hp, hb, hc⟩
  · simp [hy] at hl
  · have hcap : a.len ≤ a.cap := by
      have h1 : (E.cells (xs ++ ys) ++ rest).length = a.cap * E.n := hc
      rw [List.length_append, E.cells_length, List.length_append] at h1
      have h2 : (xs.length + ys.length) * E.n ≤ a.cap * E.n := by omega
      rw [hlen]; exact Nat.le_of_mul_le_mul_right h2 hpos
    refine ⟨0, xs.length, a.cap, rfl, rfl, rfl, by omega, by omega, Nat.le_refl _, hK _ ⟨by simp [Sl.cut], ?_, by simp [Sl.cut]; omega⟩⟩
    have hne : ¬ a.cap = 0 := by omega
    refine .inr ⟨b, 0, by simp [Sl.cut, hne, hp], fun i hi => ?_⟩
    rw [hb.cell, Nat.zero_add, E.cells_append, List.append_assoc, List.getElem?_append_left hi]
theorem set_step {i : Nat} (h : i ≤ 1048576) : w64 ((i : Int) + 1) = ((i + 1 : Nat) : Int) := by rw [w64_in (by omega) (by omega)]; omega
theorem Mod.fresh {D : Nat → Prop} {a b c : World} (h : Mod (fun _ => False) a b) (k : Mod D b c) (hd : ∀ x, x < a.heap.size → ¬ D x) : Mod (fun _ => False) a c := h.trans k (fun _ _ h => h) fun x hx hD => hd x hx hD
def Ks (r : List (Nat × List Value)) : Nat → Prop := fun b => ∃ q ∈ r, q.1 = b
def VecE {α : Type} (ro : List (Nat × List Value)) (E : Enc α) (s : Sl) (l : List α) : Prop :=
  s.len = l.length ∧ ((ro = [] ∧ s.p = none ∧ s.cap = 0 ∧ l = []) ∨ ∃ b rest, ro = [(b, E.cells l ++ rest)] ∧ s.p = some (b, 0) ∧ (E.cells l ++ rest).length = s.cap * E.n)
theorem VecE.nil {α : Type} (E : Enc α) : VecE [] E ⟨none, 0, 0⟩ [] := ⟨rfl, .inl ⟨rfl, rfl, rfl, rfl⟩⟩
theorem VecE.vec {α : Type} {ro : List (Nat × List Value)} {E : Enc α} {s : Sl} {l : List α} (h : VecE ro E s l) {w : World} (hb : ∀ p ∈ ro, Blk w p.1 p.2) : Vec w E s l :=
  ⟨h.1, h.2.imp (fun h => ⟨h.2.1, h.2.2.1, h.2.2.2⟩) fun ⟨b, rest, h1, h2, h3⟩ => ⟨b, rest, h2, hb (b, _) (by rw [h1]; simp), h3⟩⟩
theorem VecE.key {α : Type} {ro : List (Nat × List Value)} {E : Enc α} {s : Sl} {l : List α} (h : VecE ro E s l) {b : Nat} (hb : bk s b) : Ks ro b := by
  obtain ⟨o, hb⟩ := hb
  rcases h.2 with ⟨_, hp, _⟩ | ⟨b', rest, h1, h2, _⟩
  · rw [hp] at hb; cases hb
  · rw [h2] at hb; cases hb; exact ⟨_, by rw [h1]; exact List.mem_singleton.2 rfl, rfl⟩
theorem VecE.of_vec {α : Type} {w : World} {E : Enc α} {s : Sl} {l : List α} (h : Vec w E s l) : ∃ ro, VecE ro E s l ∧ (∀ p ∈ ro, Blk w p.1 p.2) ∧ (ro.map Prod.fst).Nodup ∧ ∀ p ∈ ro, bk s p.1 := by
  rcases h.own with ⟨h1, h2, h3⟩ | ⟨b, rest, h1, h2, h3⟩
  · exact ⟨[], ⟨h.len, .inl ⟨rfl, h1, h2, h3⟩⟩, by simp, by simp, by simp⟩
  · exact ⟨[(b, E.cells l ++ rest)], ⟨h.len, .inr ⟨b, rest, rfl, h1, h3⟩⟩, by simpa using h2, by simp, by simpa using ⟨0, h1⟩⟩
theorem _root_.Go.Vw.At.app {α : Type} {w0 w : World} {D : Nat → Prop} {m ro : List (Nat × List Value)} (hA : At w0 D (m ++ ro) w) {E : Enc α} {s x : Sl} {l l2 : List α} (hv : VecE ro E s l) (hr : RdS w E x l2) {e : TypeId} {n bytes : Nat} {zs : List LV} (hn : n = E.n) (hz : zs.length = E.n) (hlim : (l.length + l2.length + 1024) * (bytes + 1) ≤ 2 ^ 46)
    {K : Sl → World → Prop} (hK : ∀ s' ro' w', At w0 D (m ++ ro') w' → VecE ro' E s' (l ++ l2) → Mod (Ks ro) w w' → K s' w') : ap w e n bytes zs s x K := by
  have hvec := hv.vec (w := w) fun p hp => hA.own p (List.mem_append_right _ hp)
  refine hvec.app hr hn hz hlim fun s' w' hv' hbk' hM _ => ?_
  obtain ⟨ro', h1, h2, h3, h4⟩ := VecE.of_vec hv'
  have hM' : Mod (Ks ro) w w' := hM.mono fun b _ hb => hv.key hb
  have hnd := hA.nodup
  rw [List.map_append, List.nodup_append] at hnd
  have hdis : ∀ p ∈ m, ¬ Ks ro p.1 := by
    rintro p hp ⟨q, hq, e⟩
    exact hnd.2.2 _ (List.mem_map_of_mem hp) _ (List.mem_map_of_mem hq) e.symm
  refine hK s' ro' w' ⟨hA.mod.trans hM' (fun _ _ h => h) ?_, ?_, ?_, ?_⟩ h1 hM'
  · rintro b hb ⟨q, hq, rfl⟩; exact hA.wr q (List.mem_append_right _ hq) hb
  · intro p hp
    rcases List.mem_append.1 hp with hp | hp
    · exact hM'.blk (hA.own p (List.mem_append_left _ hp)) (hdis p hp)
    · exact h2 p hp
  · rw [List.map_append, List.nodup_append]
    refine ⟨hnd.1, h3, ?_⟩
    rintro a ha b hb rfl
    obtain ⟨p, hp, rfl⟩ := List.mem_map.1 ha
    obtain ⟨q, hq, e⟩ := List.mem_map.1 hb
    rcases hbk' q.1 (h4 q hq) with h | h
    · have := hv.key h; rw [e] at this; exact hdis p hp this
    · have := (hA.own p (List.mem_append_left _ hp)).lt; omega
  · intro p hp hlt
    rcases List.mem_append.1 hp with hp | hp
    · exact hA.wr p (List.mem_append_left _ hp) hlt
    · rcases hbk' p.1 (h4 p hp) with h | h
      · obtain ⟨q, hq, e⟩ := hv.key h
        rw [← e] at hlt ⊢; exact hA.wr q (List.mem_append_right _ hq) hlt
      · exact absurd hlt (by have := hA.mod.size; omega)
theorem slx_take {α : Type} {w : World} {E : Enc α} {a : Sl} {l : List α} (h : Vec w E a l) {n : Nat} (hn : n ≤ l.length) {K : Sl → Prop} (hK : ∀ s, RdS w E s (l.take n) → K s) : slx a E.n none (some (n : Int)) none K := by
  have hlen := h.len
  have hpos := E.pos
  rcases h.own with ⟨hp, hc, hl⟩ | ⟨b, rest, hp, hb, hc⟩
  · subst hl
    have h0 : n = 0 := by simpa using hn
    subst h0
    refine ⟨0, 0, a.cap, rfl, rfl, rfl, Nat.le_refl _, Nat.zero_le _, Nat.le_refl _, hK _ ⟨by simp [Sl.cut], .inl rfl, by simp [Sl.cut]⟩⟩
  · have hcap : a.len ≤ a.cap := by
      rw [List.length_append, E.cells_length] at hc
      have : l.length * E.n ≤ a.cap * E.n := by omega
      rw [hlen]; exact Nat.le_of_mul_le_mul_right this hpos
    refine ⟨0, n, a.cap, rfl, rfl, rfl, Nat.zero_le _, by omega, Nat.le_refl _, hK _ ⟨by simp [Sl.cut]; omega, ?_, by simp [Sl.cut]; omega⟩⟩
    by_cases hz : n = 0
    · subst hz; exact .inl rfl
    · have hcz : ¬ a.cap = 0 := by omega
      refine .inr ⟨b, 0, by simp [Sl.cut, hcz, hp], fun i hi => ?_⟩
      have h1 : E.cells l = E.cells (l.take n) ++ E.cells (l.drop n) := by rw [← E.cells_append, List.take_append_drop]
      rw [hb.cell, Nat.zero_add, h1, List.append_assoc, List.getElem?_append_left hi]
theorem slx_drop {α : Type} {w : World} {E : Enc α} {a : Sl} {l : List α} (h : Vec w E a l) {n : Nat} (hn : n ≤ l.length) {K : Sl → Prop} (hK : ∀ s, RdS w E s (l.drop n) → K s) : slx a E.n (some (n : Int)) none none K := by
  have hlen := h.len
  have hpos := E.pos
  have hcap : a.len ≤ a.cap := by
    rcases h.own with ⟨hp, hc, hl⟩ | ⟨b, rest, hp, hb, hc⟩
    · rw [hlen, hl]; exact Nat.zero_le _
    · rw [List.length_append, E.cells_length] at hc
      have : l.length * E.n ≤ a.cap * E.n := by omega
      rw [hlen]; exact Nat.le_of_mul_le_mul_right this hpos
  refine ⟨n, a.len, a.cap, rfl, rfl, rfl, by omega, hcap, Nat.le_refl _, hK _ ⟨by simp [Sl.cut]; omega, ?_, by simp [Sl.cut]; omega⟩⟩
  by_cases hz : n = l.length
  · left; rw [hz, List.drop_length]; rfl
  · rcases h.own with ⟨hp, hc, hl⟩ | ⟨b, rest, hp, hb, hc⟩
    · subst hl; simp at hn hz; omega
    · have hcz : ¬ a.cap = n := by omega
      refine .inr ⟨b, 0 + n * E.n, by simp [Sl.cut, hcz, hp], fun i hi => ?_⟩
      have h1 : E.cells l = E.cells (l.take n) ++ E.cells (l.drop n) := by rw [← E.cells_append, List.take_append_drop]
      have h2 : (E.cells (l.take n)).length = n * E.n := by rw [E.cells_length]; simp; rw [Nat.min_eq_left hn]
      rw [hb.cell, Nat.zero_add, h1, List.append_assoc, List.getElem?_append_right (by omega), h2, Nat.add_sub_cancel_left, List.getElem?_append_left hi]
theorem VecE.of_at {α : Type} {w0 w : World} {D : Nat → Prop} {m ro : List (Nat × List Value)} (hA : At w0 D (m ++ ro) w) {E : Enc α} {s : Sl} {l : List α} (h : VecE ro E s l) : Vec w E s l := h.vec fun p hp => hA.own p (List.mem_append_right _ hp)
theorem perm_tail3 {α : Type} (m a b : List α) : ((m ++ a) ++ b).Perm ((m ++ b) ++ a) := by
  rw [List.append_assoc, List.append_assoc]
  exact List.Perm.append_left m List.perm_append_comm
theorem At.last {w0 w : World} {D : Nat → Prop} {m : List (Nat × List Value)} {b : Nat} {c : List Value} (hA : At w0 D (m ++ [(b, c)]) w) {o : Nat} {vs : List LV} {K : World → Prop} (hl : o + vs.length ≤ c.length)
    (hK : ∀ w', At w0 D (m ++ [(b, spl c o (vs.map LV.toV))]) w' → K w') : Go.Vw.st w b o vs K := by
  refine hA.st m.length (by simp) hl fun w' hA' _ => hK w' ?_
  have : (m ++ [(b, c)]).set m.length (b, spl c o (vs.map LV.toV)) = m ++ [(b, spl c o (vs.map LV.toV))] := by
    rw [List.set_append_right _ _ (Nat.le_refl _)]; simp
  rw [this] at hA'; exact hA'
theorem _root_.Go.Vw.RdS.slx {α : Type} {w : World} {E : Enc α} {s : Sl} {l : List α} (h : RdS w E s l) {n : Nat} (hn : n ≤ l.length) (sz : Nat) {K : Sl → Prop} (hK : K (s.cut sz 0 n s.cap)) : Go.Vw.slx s sz none (some (n : Int)) none K :=
  ⟨0, n, s.cap, rfl, rfl, rfl, Nat.zero_le _, by have := h.has; have := h.len; omega, Nat.le_refl _, hK⟩
theorem _root_.Go.Vw.At.ldLast {w0 w : World} {D : Nat → Prop} {m : List (Nat × List Value)} {b : Nat} {c : List Value} (h : At w0 D (m ++ [(b, c)]) w) {k : Kd} {o : Nat} (x : Den k) {K : Den k → Prop} (hx : c[o]? = some (LV.mk k x).toV) (hK : K x) : Go.Vw.ld w k b o K :=
  h.ld m.length x (by simp) hx hK
theorem exists_min {γ : Type} (μ : γ → Nat) {p : γ → Prop} (h : ∃ g, p g) : ∃ g, p g ∧ ∀ g', p g' → μ g ≤ μ g' := by
  obtain ⟨g, hg⟩ := h
  generalize hn : μ g = n
  induction n using Nat.strongRecOn generalizing g with
  | _ n ih =>
    by_cases hs : ∃ g', p g' ∧ μ g' < n
    · obtain ⟨g', h1, h2⟩ := hs
      exact ih _ h2 g' h1 rfl
    · refine ⟨g, hg, fun g' h' => ?_⟩
      rw [hn]
      exact Nat.not_lt.1 fun hlt => hs ⟨g', h', hlt⟩
theorem loop0G {γ : Type} {B : World → (World → Prop) → Prop} {w : World} (I : γ → World → Prop) (μ : γ → Nat) (g0 : γ) (h0 : I g0 w) (hs : ∀ g w (K : World → Prop), I g w → (∀ g' w', I g' w' → μ g' < μ g → K w') → B w K) : loopL [] B [] w := by
  classical
  let m : World → Nat := fun w => if h : ∃ g, I g w then μ (exists_min μ h).choose else 0
  have hm : ∀ g w, I g w → m w ≤ μ g := fun g w hg => by
    have h : ∃ g, I g w := ⟨g, hg⟩
    show (if h : ∃ g, I g w then μ (exists_min μ h).choose else 0) ≤ μ g
    rw [dif_pos h]
    exact (exists_min μ h).choose_spec.2 g hg
  refine loop0 (fun w => ∃ g, I g w) m ⟨g0, h0⟩ fun w h => ?_
  have hmw : m w = μ (exists_min μ h).choose := by
    show (if h : ∃ g, I g w then μ (exists_min μ h).choose else 0) = _
    rw [dif_pos h]
  refine hs _ w _ (exists_min μ h).choose_spec.1 fun g' w' h' hlt => ⟨⟨g', h'⟩, ?_⟩
  rw [hmw]
  exact Nat.lt_of_le_of_lt (hm g' w' h') hlt
theorem _root_.Go.Vw.At.notKs {w0 w : World} {D : Nat → Prop} {m ro : List (Nat × List Value)} (hA : At w0 D (m ++ ro) w) {p : Nat × List Value} (hp : p ∈ m) : ¬ Ks ro p.1 := by
  have hnd := hA.nodup
  rw [List.map_append, List.nodup_append] at hnd
  rintro ⟨q, hq, e⟩
  exact hnd.2.2 _ (List.mem_map_of_mem hp) _ (List.mem_map_of_mem hq) e.symm
def isFar : Obj → Bool
  | .cells _ _ _ => false
  | _ => true
theorem isFar_loop {o : Obj} (h : isLoop (some o) = true) : isFar o = true := by cases o <;> first | rfl | cases h
theorem heap_lt {w : World} {l : Nat} {o : Obj} (h : w.heap[l]? = some o) : l < w.heap.size := (Array.getElem?_eq_some_iff.1 h).1
theorem far_cell {w : World} {b : Nat} {o : Obj} {c : List Value} (h : w.heap[b]? = some o) (hf : isFar o = true) : ¬ Blk w b c := by
  rintro ⟨e, he⟩
  rw [h] at he
  cases he; cases hf
theorem mod0 {a b c : World} (h : Mod (fun _ => False) a b) (k : Mod (fun _ => False) b c) : Mod (fun _ => False) a c := h.trans k (fun _ _ h => h) fun _ _ h => h
theorem _root_.Go.Vw.RdS.slxPart {α : Type} {w : World} {E : Enc α} {s : Sl} {l : List α} (h : RdS w E s l) {lo hi : Nat} (h1 : lo ≤ hi) (h2 : hi ≤ l.length) {K : Sl → Prop} (hK : K (s.cut E.n lo hi s.cap)) : Go.Vw.slx s E.n (some (lo : Int)) (some (hi : Int)) none K :=
  ⟨lo, hi, s.cap, rfl, rfl, rfl, h1, by have := h.has; have := h.len; omega, Nat.le_refl _, hK⟩
def EStr : Enc Str := ⟨1, fun s => [(LV.str s).toV], fun _ => rfl, by decide, fun x v h => by simp at h; subst h; rfl⟩
def EPr : Enc (Str × Str) := ⟨2, fun x => [(LV.str x.1).toV, (LV.str x.2).toV], fun _ => rfl, by decide, fun x v h => by simp at h; rcases h with rfl | rfl <;> rfl⟩
def ESl : Enc Sl := ⟨1, fun s => [(LV.sl s).toV], fun _ => rfl, by decide, fun x v h => by simp at h; subst h; rfl⟩
theorem dlt {a b : Nat} (h : decide ((a : Int) < (b : Int)) = true) : a < b := Int.ofNat_lt.1 (of_decide_eq_true h)
theorem dge {a b : Nat} (h : decide ((a : Int) < (b : Int)) = false) : b ≤ a := Nat.not_lt.1 fun k => of_decide_eq_false h (Int.ofNat_lt.2 k)
theorem dpos {a : Nat} (h : decide ((0 : Int) < (a : Int)) = true) : 0 < a := Int.ofNat_lt.1 (of_decide_eq_true h)
theorem dzero {a : Nat} (h : decide ((0 : Int) < (a : Int)) = false) : a = 0 := Nat.eq_zero_of_not_pos fun k => of_decide_eq_false h (Int.ofNat_lt.2 k)
theorem mk0 {α : Type} {w : World} (E : Enc α) (z : α) {e : TypeId} {bytes : Nat} {zs : List LV} {n : Int} (k : Nat) (hk : n = (k : Int)) (hz : zs.map LV.toV = E.f z) (h1 : k < 2 ^ 48) (h2 : bytes * k ≤ 2 ^ 47)
    {K : Sl → World → Prop} (hK : ∀ w' ro, At w (fun _ => False) ro w' → VecE ro E ⟨some (w.heap.size, 0), 0, k⟩ [] → K ⟨some (w.heap.size, 0), 0, k⟩ w') : Go.Vw.mk w e bytes zs 0 n K := by
  subst hk
  have hc : ∀ m : Nat, (List.replicate m (zs.map LV.toV)).flatten = E.cells (List.replicate m z) := by
    intro m
    induction m with
    | zero => rfl
    | succ m ih => rw [hz] at ih; simp only [List.replicate_succ, List.flatten_cons, Enc.cells, hz, ih]
  refine ⟨Int.le_refl _, by omega, by exact_mod_cast h1, by exact_mod_cast h2, ?_⟩
  have hb := (At.init w fun _ => False).al (List.replicate k (zs.map LV.toV)).flatten e
  simp only [Int.toNat_natCast]
  refine hK _ _ hb ⟨rfl, .inr ⟨_, (List.replicate k (zs.map LV.toV)).flatten, rfl, rfl, ?_⟩⟩
  rw [hc]
  show ([] ++ E.cells (List.replicate k z)).length = k * E.n
  rw [List.nil_append, E.cells_length, List.length_replicate]
end Go.Proofs.YtjefbjfifjjpmafGreatDoor
