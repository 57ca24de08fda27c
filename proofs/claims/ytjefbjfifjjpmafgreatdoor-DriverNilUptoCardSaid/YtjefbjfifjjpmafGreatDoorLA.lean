/- L0, L1 in one text. -/
import Derived.Test.YtjefbjfifjjpmafGreatDoorWB
/- Reasoning on the typed reading: blocks that are known, frames, the primitives' rules. Nothing here is about a program. -/
namespace Go.Vw

/-! ### Blocks -/
/-- block b holds just these cells, and may be written -/
def Blk (w : World) (b : Nat) (c : List Value) : Prop := ∃ e, w.heap[b]? = some (.cells c.toArray e)
theorem Blk.lt {w : World} {b : Nat} {c : List Value} (h : Blk w b c) : b < w.heap.size := by
  obtain ⟨e, h⟩ := h; exact (Array.getElem?_eq_some_iff.1 h).1
theorem Blk.cell {w : World} {b : Nat} {c : List Value} (h : Blk w b c) (o : Nat) : w.cell? ⟨b, o, none⟩ = c[o]? := by
  obtain ⟨e, h⟩ := h; simp [World.cell?, h]
theorem Blk.frz {w : World} {b : Nat} {c : List Value} (h : Blk w b c) (o : Nat) : w.frozen? ⟨b, o, none⟩ = false := by
  obtain ⟨e, h⟩ := h; simp [World.frozen?, h]
theorem Blk.of_heap {w w' : World} {b : Nat} {c : List Value} (h : Blk w b c) (hh : w'.heap[b]? = w.heap[b]?) : Blk w' b c := by
  obtain ⟨e, h⟩ := h; exact ⟨e, hh.trans h⟩
theorem cell_of_heap {w w' : World} {a : Addr} (hh : w'.heap[a.block]? = w.heap[a.block]?) : w'.cell? a = w.cell? a := by simp [World.cell?, hh]
theorem heap_alloc_old {w : World} {o : Obj} {b : Nat} (h : b < w.heap.size) : (w.alloc o).heap[b]? = w.heap[b]? := by
  simp only [World.alloc]
  rw [Array.getElem?_push_lt h, Array.getElem?_eq_getElem h]
theorem Blk.new (w : World) (c : List Value) (e : TypeId) : Blk (w.alloc (.cells c.toArray e)) w.heap.size c := ⟨e, World.alloc_heap_new w _⟩
/-- cells that are written over -/
def spl (c : List Value) (o : Nat) : List Value → List Value
  | [] => c
  | v :: r => spl (c.set o v) (o + 1) r
@[simp] theorem spl_length (c : List Value) (o : Nat) (vs : List Value) : (spl c o vs).length = c.length := by
  induction vs generalizing c o with
  | nil => rfl
  | cons v r ih => simp [spl, ih]
theorem heap_setCell {w : World} {a : Addr} {v : Value} {k : Nat} (h : k ≠ a.block) : (w.setCell a v).heap[k]? = w.heap[k]? := Go.RowKit.Below.heap_setCell w a v k h
theorem heap_setCells {b : Nat} : ∀ (vs : List Value) (w : World) (o k : Nat), k ≠ b → (World.setCells w b o vs).heap[k]? = w.heap[k]?
  | [], _, _, _, _ => rfl
  | v :: r, w, o, k, h => (heap_setCells r _ (o + 1) k h).trans (heap_setCell h)
theorem size_setCells {b : Nat} : ∀ (vs : List Value) (w : World) (o : Nat), (World.setCells w b o vs).heap.size = w.heap.size
  | [], _, _ => rfl
  | v :: r, w, o => (size_setCells r _ (o + 1)).trans (World.size_setCell ..)
theorem Blk.setCell {w : World} {b o : Nat} {c : List Value} (h : Blk w b c) (v : Value) : Blk (w.setCell ⟨b, o, none⟩ v) b (c.set o v) := by
  have hlt := h.lt
  obtain ⟨e, h⟩ := h
  refine ⟨e, ?_⟩
  have hg : w.heap[b] = .cells c.toArray e := by rw [Array.getElem?_eq_getElem hlt] at h; simpa using h
  show (w.heap.modify b _)[b]? = _
  rw [Array.getElem?_eq_getElem (by rw [Array.size_modify]; exact hlt), Array.getElem_modify_self, hg]
  simp
theorem Blk.setCells {b : Nat} : ∀ (vs : List Value) {w : World} {o : Nat} {c : List Value}, Blk w b c → Blk (World.setCells w b o vs) b (spl c o vs)
  | [], _, _, _, h => h
  | v :: r, w, o, c, h => Blk.setCells r (h.setCell v)

/-! ### Frames -/
theorem Mod.trans {D D1 D2 : Nat → Prop} {a b c : World} (h : Mod D1 a b) (k : Mod D2 b c) (h1 : ∀ x, x < a.heap.size → D1 x → D x) (h2 : ∀ x, x < a.heap.size → D2 x → D x) : Mod D a c :=
  ⟨k.os.trans h.os, k.tape.trans h.tape, k.output.trans h.output, Nat.le_trans h.size k.size, fun x hx hd =>
    (k.block x (Nat.lt_of_lt_of_le hx h.size) fun hd2 => hd (h2 x hx hd2)).trans (h.block x hx fun hd1 => hd (h1 x hx hd1))⟩
theorem Mod.mono {D D1 : Nat → Prop} {a b : World} (h : Mod D1 a b) (h1 : ∀ x, x < a.heap.size → D1 x → D x) : Mod D a b :=
  ⟨h.os, h.tape, h.output, h.size, fun x hx hd => h.block x hx fun hd1 => hd (h1 x hx hd1)⟩
theorem Mod.drew (D : Nat → Prop) (w : World) : Mod D w w.drew := ⟨rfl, rfl, rfl, Nat.le_refl _, fun _ _ _ => rfl⟩
theorem Mod.alloc (D : Nat → Prop) (w : World) (o : Obj) : Mod D w (w.alloc o) := ⟨rfl, rfl, rfl, by simp, fun _ hx _ => heap_alloc_old hx⟩
theorem setCells_rest {b : Nat} : ∀ (vs : List Value) (w : World) (o : Nat), (World.setCells w b o vs).os = w.os ∧ (World.setCells w b o vs).tape = w.tape ∧ (World.setCells w b o vs).output = w.output
  | [], _, _ => ⟨rfl, rfl, rfl⟩
  | v :: r, w, o => setCells_rest r (w.setCell _ v) (o + 1)
theorem Mod.setCells (w : World) (b o : Nat) (vs : List Value) : Mod (fun k => k = b) w (World.setCells w b o vs) :=
  ⟨(setCells_rest vs w o).1, (setCells_rest vs w o).2.1, (setCells_rest vs w o).2.2, by rw [size_setCells]; exact Nat.le_refl _, fun k _ hk => heap_setCells vs w o k hk⟩
theorem Mod.putObj (w : World) (b : Nat) (o : Obj) : Mod (fun k => k = b) w (w.putObj b o) :=
  ⟨rfl, rfl, rfl, by simp, fun k _ hk => World.putObj_heap_other hk⟩
theorem Mod.blk {D : Nat → Prop} {w w' : World} (h : Mod D w w') {b : Nat} {c : List Value} (hb : Blk w b c) (hd : ¬ D b) : Blk w' b c := hb.of_heap (h.block b hb.lt hd)
theorem cell_lt {w : World} {a : Addr} {v : Value} (h : w.cell? a = some v) : a.block < w.heap.size := by
  unfold World.cell? at h
  cases ho : w.heap[a.block]? with
  | none => simp [ho] at h
  | some o => exact (Array.getElem?_eq_some_iff.1 ho).1
theorem Mod.cell {D : Nat → Prop} {w w' : World} (h : Mod D w w') {a : Addr} {v : Value} (hb : w.cell? a = some v) (hd : ¬ D a.block) : w'.cell? a = some v :=
  (cell_of_heap (h.block _ (cell_lt hb) hd)).trans hb

/-! ### Known blocks, by their places in a list -/
/-- what is known of a world: since w0 nothing but blocks of D was written; these blocks hold these cells -/
structure At (w0 : World) (D : Nat → Prop) (m : List (Nat × List Value)) (w : World) : Prop where
  mod : Mod D w0 w
  own : ∀ p ∈ m, Blk w p.1 p.2
  nodup : (m.map Prod.fst).Nodup
  wr : ∀ p ∈ m, p.1 < w0.heap.size → D p.1
theorem At.init (w0 : World) (D : Nat → Prop) : At w0 D [] w0 := ⟨Mod.refl _ _, by simp, by simp, by simp⟩
theorem At.blk {w0 w : World} {D : Nat → Prop} {m : List (Nat × List Value)} (h : At w0 D m w) {i b : Nat} {c : List Value} (hi : m[i]? = some (b, c)) : Blk w b c := h.own (b, c) (List.mem_of_getElem? hi)
theorem At.al {w0 w : World} {D : Nat → Prop} {m : List (Nat × List Value)} (h : At w0 D m w) (c : List Value) (e : TypeId) : At w0 D (m ++ [(w.heap.size, c)]) (w.alloc (.cells c.toArray e)) := by
  refine ⟨h.mod.trans (Mod.alloc D w _) (fun _ _ h => h) (fun _ _ h => h), ?_, ?_, ?_⟩
  · intro p hp
    rcases List.mem_append.1 hp with hp | hp
    · exact (h.own p hp).of_heap (heap_alloc_old (h.own p hp).lt)
    · simp at hp; subst hp; exact Blk.new ..
  · rw [List.map_append, List.nodup_append]
    refine ⟨h.nodup, by simp, ?_⟩
    intro a ha b hb
    simp at hb; subst hb
    obtain ⟨p, hp, rfl⟩ := List.mem_map.1 ha
    exact Nat.ne_of_lt (h.own p hp).lt
  · intro p hp hlt
    rcases List.mem_append.1 hp with hp | hp
    · exact h.wr p hp hlt
    · simp at hp; subst hp
      have : w0.heap.size ≤ w.heap.size := h.mod.size
      exact absurd hlt (by simp; omega)
theorem At.drew {w0 w : World} {D : Nat → Prop} {m : List (Nat × List Value)} (h : At w0 D m w) : At w0 D m w.drew :=
  ⟨h.mod.trans (Mod.drew D w) (fun _ _ h => h) (fun _ _ h => h), fun p hp => (h.own p hp).of_heap rfl, h.nodup, h.wr⟩
theorem At.ne {w0 w : World} {D : Nat → Prop} {m : List (Nat × List Value)} (h : At w0 D m w) {i j b b' : Nat} {c c' : List Value} (hi : m[i]? = some (b, c)) (hj : m[j]? = some (b', c')) (hij : i ≠ j) : b ≠ b' := by
  intro e; subst e
  have h1 : (m.map Prod.fst)[i]? = some b := by simp [hi]
  have h2 : (m.map Prod.fst)[j]? = some b := by simp [hj]
  exact hij ((List.getElem?_inj (List.getElem?_eq_some_iff.1 h1).1 h.nodup).1 (h1.trans h2.symm))
theorem At.setCells {w0 w : World} {D : Nat → Prop} {m : List (Nat × List Value)} (h : At w0 D m w) {i b : Nat} {c : List Value} (hi : m[i]? = some (b, c)) (o : Nat) (vs : List Value) :
    At w0 D (m.set i (b, spl c o vs)) (World.setCells w b o vs) := by
  have hmap : (m.set i (b, spl c o vs)).map Prod.fst = m.map Prod.fst := by
    rw [List.map_set]
    apply List.ext_getElem?
    intro k
    rw [List.getElem?_set]
    split
    · rename_i hk; subst hk
      split
      · simp [hi]
      · rename_i hn; simp at hn; simp [hn]
    · rfl
  refine ⟨h.mod.trans (Mod.setCells w b o vs) (fun _ _ h => h) (fun x hx e => ?_), ?_, by rw [hmap]; exact h.nodup, ?_⟩
  · subst e; exact h.wr _ (List.mem_of_getElem? hi) hx
  · intro p hp
    obtain ⟨k, hk⟩ := List.mem_iff_getElem?.1 hp
    rw [List.getElem?_set] at hk
    split at hk
    · split at hk
      · cases hk; exact Blk.setCells vs (h.blk hi)
      · cases hk
    · rename_i hik
      have hne : b ≠ p.1 := h.ne (c' := p.2) hi (by rw [hk]) hik
      exact (h.own p (List.mem_of_getElem? hk)).of_heap (heap_setCells vs w o _ (Ne.symm hne))
  · intro p hp hlt
    obtain ⟨q, hq, hqp⟩ : ∃ q ∈ m, q.1 = p.1 := by
      have : p.1 ∈ (m.set i (b, spl c o vs)).map Prod.fst := List.mem_map_of_mem hp
      rw [hmap] at this
      exact List.mem_map.1 this
    rw [← hqp]; rw [← hqp] at hlt; exact h.wr q hq hlt
/-- a call, or anything else that keeps the known blocks -/
theorem At.keep {w0 w w' : World} {D D' : Nat → Prop} {m : List (Nat × List Value)} (h : At w0 D m w) (hM : Mod D' w w') (h1 : ∀ b, b < w0.heap.size → D' b → D b) (h2 : ∀ p ∈ m, ¬ D' p.1) : At w0 D m w' :=
  ⟨h.mod.trans hM (fun _ _ h => h) h1, fun p hp => hM.blk (h.own p hp) (h2 p hp), h.nodup, h.wr⟩
theorem At.keep0 {w0 w w' : World} {D D' : Nat → Prop} {m : List (Nat × List Value)} (h : At w0 D m w) (hM : Mod D' w w') (h2 : ∀ b, ¬ D' b) : At w0 D m w' := h.keep hM (fun b _ hb => (h2 b hb).elim) fun p _ => h2 p.1
theorem At.sub {w0 w : World} {D : Nat → Prop} {m m' : List (Nat × List Value)} (h : At w0 D m w) (hs : m'.Sublist m) : At w0 D m' w :=
  ⟨h.mod, fun p hp => h.own p (hs.subset hp), h.nodup.sublist (hs.map _), fun p hp => h.wr p (hs.subset hp)⟩
theorem At.weaken {w0 w : World} {D D' : Nat → Prop} {m : List (Nat × List Value)} (h : At w0 D m w) (hD : ∀ b, b < w0.heap.size → D b → D' b) : At w0 D' m w :=
  ⟨h.mod.mono hD, h.own, h.nodup, fun p hp hl => hD _ hl (h.wr p hp hl)⟩
theorem At.add {w0 w : World} {D : Nat → Prop} {m : List (Nat × List Value)} (h : At w0 D m w) {b : Nat} {c : List Value} (hb : Blk w b c) (hn : ∀ p ∈ m, p.1 ≠ b) (hD : b < w0.heap.size → D b) : At w0 D (m ++ [(b, c)]) w := by
  refine ⟨h.mod, ?_, ?_, ?_⟩
  · intro p hp
    rcases List.mem_append.1 hp with hp | hp
    · exact h.own p hp
    · simp at hp; subst hp; exact hb
  · rw [List.map_append, List.nodup_append]
    refine ⟨h.nodup, by simp, ?_⟩
    intro a ha x hx
    simp at hx; subst hx
    obtain ⟨p, hp, rfl⟩ := List.mem_map.1 ha
    exact hn p hp
  · intro p hp hlt
    rcases List.mem_append.1 hp with hp | hp
    · exact h.wr p hp hlt
    · simp at hp; subst hp; exact hD hlt
/-- from another beginning -/
theorem At.from {w0 w : World} {D : Nat → Prop} {m : List (Nat × List Value)} (h : At w0 D m w) {D' : Nat → Prop} (hD : ∀ p ∈ m, D' p.1) : At w D' m w :=
  ⟨Mod.refl _ _, h.own, h.nodup, fun p hp _ => hD p hp⟩
/-! ### the primitives' rules -/
theorem ifK_intro {b : Bool} {A B : Prop} (h1 : b = true → A) (h2 : b = false → B) : ifK b A B := ⟨h1, h2⟩
theorem ifK_t {b : Bool} {A B : Prop} (h : b = true) (h1 : A) : ifK b A B := ⟨fun _ => h1, fun h' => by rw [h] at h'; cases h'⟩
theorem ifK_f {b : Bool} {A B : Prop} (h : b = false) (h1 : B) : ifK b A B := ⟨fun h' => by (rw [h] at h'; cases h'), fun _ => h1⟩
theorem ld_cell {w : World} {k : Kd} {b o : Nat} {K : Den k → Prop} (x : Den k) (h : w.cell? ⟨b, o, none⟩ = some (LV.mk k x).toV) (hK : K x) : ld w k b o K := ⟨x, h, hK⟩
theorem ldD_cell {D : Nat → Prop} {w : World} {k : Kd} {b o : Nat} {K : Den k → Prop} (x : Den k) (hd : ¬ D b) (h : w.cell? ⟨b, o, none⟩ = some (LV.mk k x).toV) (hK : K x) : ldD D w k b o K := ⟨x, hd, h, hK⟩
theorem At.ld {w0 w : World} {D : Nat → Prop} {m : List (Nat × List Value)} (h : At w0 D m w) (i : Nat) {k : Kd} {b o : Nat} {c : List Value} (x : Den k) {K : Den k → Prop} (hi : m[i]? = some (b, c)) (hx : c[o]? = some (LV.mk k x).toV) (hK : K x) : Go.Vw.ld w k b o K :=
  ⟨x, ((h.blk hi).cell o).trans hx, hK⟩
theorem At.ldD {w0 w : World} {D E : Nat → Prop} {m : List (Nat × List Value)} (h : At w0 D m w) (i : Nat) {k : Kd} {b o : Nat} {c : List Value} (x : Den k) {K : Den k → Prop} (hi : m[i]? = some (b, c)) (hx : c[o]? = some (LV.mk k x).toV) (hE : ¬ E b) (hK : K x) : Go.Vw.ldD E w k b o K :=
  ⟨x, hE, ((h.blk hi).cell o).trans hx, hK⟩
theorem At.st {w0 w : World} {D : Nat → Prop} {m : List (Nat × List Value)} (h : At w0 D m w) (i : Nat) {b o : Nat} {c : List Value} {vs : List LV} {K : World → Prop} (hi : m[i]? = some (b, c)) (hl : o + vs.length ≤ c.length)
    (hK : ∀ w', At w0 D (m.set i (b, spl c o (vs.map LV.toV))) w' → Mod (fun k => k = b) w w' → K w') : Go.Vw.st w b o vs K := by
  refine ⟨fun j hj => ⟨⟨c[o + j]'(by omega), ?_⟩, (h.blk hi).frz _⟩, hK _ (h.setCells hi o _) (Mod.setCells ..)⟩
  rw [(h.blk hi).cell, List.getElem?_eq_getElem]
theorem At.alK {w0 w : World} {D : Nat → Prop} {m : List (Nat × List Value)} (h : At w0 D m w) {e : TypeId} {cs : List LV} {K : Nat → World → Prop}
    (hK : ∀ b w', b = w.heap.size → At w0 D (m ++ [(b, cs.map LV.toV)]) w' → Mod (fun _ => False) w w' → K b w') : Go.Vw.al w e cs K := hK _ _ rfl (h.al _ e) (Mod.alloc _ _ _)
theorem dr_some {b o : Nat} {K : Nat → Nat → Prop} (h : K b o) : dr (some (b, o)) K := ⟨b, o, rfl, h⟩
theorem ix_some {s : Sl} {sz b o : Nat} {i : Int} {K : Nat → Nat → Prop} (hp : s.p = some (b, o)) (h0 : 0 ≤ i) (h1 : i < s.len) (h : K b (o + i.toNat * sz)) (hc : s.len ≤ s.cap := by first | exact Nat.le_refl _ | assumption | omega) : ix s sz i K := ⟨b, o, hp, by omega, h0, h1, h⟩
theorem w64_in {n : Int} (h1 : -9223372036854775808 ≤ n) (h2 : n ≤ 9223372036854775807) : w64 n = n := IntWalk.i64_in n ⟨h1, h2⟩
/-! loops -/
theorem loop0 {B : World → (World → Prop) → Prop} {w : World} (I : World → Prop) (μ : World → Nat) (h0 : I w) (hs : ∀ w, I w → B w fun w' => I w' ∧ μ w' < μ w) : loopL [] B [] w :=
  ⟨fun l w => l = [] ∧ I w, fun _ => μ, ⟨rfl, h0⟩, fun l w hI => by
    obtain ⟨rfl, hI⟩ := hI
    have := hs w hI
    simpa [app, lam] using this⟩
def mu1 (k : Kd) (μ : Den k → World → Nat) : List LV → World → Nat
  | [y], w => match y.as k with
    | some x => μ x w
    | none => 0
  | _, _ => 0
theorem loop1 {k : Kd} {B : Den k → World → (Den k → World → Prop) → Prop} {y : LV} {w : World} (I : Den k → World → Prop) (μ : Den k → World → Nat) {x : Den k} (hy : y.as k = some x) (h0 : I x w)
    (hs : ∀ x w, I x w → B x w fun x' w' => I x' w' ∧ μ x' w' < μ x w) : loopL [k] B [y] w :=
  ⟨fun l w => ∃ y x, l = [y] ∧ y.as k = some x ∧ I x w, mu1 k μ, ⟨y, x, rfl, hy, h0⟩, fun l w hI => by
    obtain ⟨y, x, rfl, hx, hI⟩ := hI
    have := hs x w hI
    simp only [app, lam, hx]
    have he : (fun (x' : Den k) (w' : World) => (∃ y x, [LV.mk k x'] = [y] ∧ y.as k = some x ∧ I x w') ∧ mu1 k μ [LV.mk k x'] w' < mu1 k μ [y] w) = fun x' w' => I x' w' ∧ μ x' w' < μ x w := by
      funext x' w'
      simp only [mu1, LV.as_mk, hx, eq_iff_iff]
      constructor
      · rintro ⟨⟨y, x, h1, h2, h3⟩, h4⟩
        cases h1
        rw [LV.as_mk] at h2; cases h2
        exact ⟨h3, h4⟩
      · rintro ⟨h1, h2⟩; exact ⟨⟨_, x', rfl, LV.as_mk k x', h1⟩, h2⟩
    rw [he]; exact this⟩
def mu2 (k1 k2 : Kd) (μ : Den k1 → Den k2 → World → Nat) : List LV → World → Nat
  | [y1, y2], w => match y1.as k1, y2.as k2 with
    | some x1, some x2 => μ x1 x2 w
    | _, _ => 0
  | _, _ => 0
theorem loop2 {k1 k2 : Kd} {B : Den k1 → Den k2 → World → (Den k1 → Den k2 → World → Prop) → Prop} {y1 y2 : LV} {w : World} (I : Den k1 → Den k2 → World → Prop) (μ : Den k1 → Den k2 → World → Nat) {x1 : Den k1} {x2 : Den k2} (hy1 : y1.as k1 = some x1) (hy2 : y2.as k2 = some x2) (h0 : I x1 x2 w)
    (hs : ∀ x1 x2 w, I x1 x2 w → B x1 x2 w fun x1' x2' w' => I x1' x2' w' ∧ μ x1' x2' w' < μ x1 x2 w) : loopL [k1, k2] B [y1, y2] w :=
  ⟨fun l w => ∃ y1 x1 y2 x2, l = [y1, y2] ∧ y1.as k1 = some x1 ∧ y2.as k2 = some x2 ∧ I x1 x2 w, mu2 k1 k2 μ, ⟨y1, x1, y2, x2, rfl, hy1, hy2, h0⟩, fun l w hI => by
    obtain ⟨y1, x1, y2, x2, rfl, hx1, hx2, hI⟩ := hI
    have := hs x1 x2 w hI
    simp only [app, lam, hx1, hx2]
    have he : (fun (a : Den k1) (b : Den k2) (w' : World) => (∃ y1 x1 y2 x2, [LV.mk k1 a, LV.mk k2 b] = [y1, y2] ∧ y1.as k1 = some x1 ∧ y2.as k2 = some x2 ∧ I x1 x2 w') ∧ mu2 k1 k2 μ [LV.mk k1 a, LV.mk k2 b] w' < mu2 k1 k2 μ [y1, y2] w) = fun a b w' => I a b w' ∧ μ a b w' < μ x1 x2 w := by
      funext a b w'
      simp only [mu2, LV.as_mk, hx1, hx2, eq_iff_iff]
      constructor
      · rintro ⟨⟨y1, x1, y2, x2, h1, h2, h3, h4⟩, h5⟩
        cases h1
        rw [LV.as_mk] at h2 h3; cases h2; cases h3
        exact ⟨h4, h5⟩
      · rintro ⟨h1, h2⟩; exact ⟨⟨_, a, _, b, rfl, LV.as_mk k1 a, LV.as_mk k2 b, h1⟩, h2⟩
    rw [he]; exact this⟩
def mu3 (k1 k2 k3 : Kd) (μ : Den k1 → Den k2 → Den k3 → World → Nat) : List LV → World → Nat
  | [y1, y2, y3], w => match y1.as k1, y2.as k2, y3.as k3 with
    | some x1, some x2, some x3 => μ x1 x2 x3 w
    | _, _, _ => 0
  | _, _ => 0
theorem loop3 {k1 k2 k3 : Kd} {B : Den k1 → Den k2 → Den k3 → World → (Den k1 → Den k2 → Den k3 → World → Prop) → Prop} {y1 y2 y3 : LV} {w : World} (I : Den k1 → Den k2 → Den k3 → World → Prop) (μ : Den k1 → Den k2 → Den k3 → World → Nat) {x1 : Den k1} {x2 : Den k2} {x3 : Den k3} (hy1 : y1.as k1 = some x1) (hy2 : y2.as k2 = some x2) (hy3 : y3.as k3 = some x3) (h0 : I x1 x2 x3 w)
    (hs : ∀ x1 x2 x3 w, I x1 x2 x3 w → B x1 x2 x3 w fun x1' x2' x3' w' => I x1' x2' x3' w' ∧ μ x1' x2' x3' w' < μ x1 x2 x3 w) : loopL [k1, k2, k3] B [y1, y2, y3] w :=
  ⟨fun l w => ∃ y1 x1 y2 x2 y3 x3, l = [y1, y2, y3] ∧ y1.as k1 = some x1 ∧ y2.as k2 = some x2 ∧ y3.as k3 = some x3 ∧ I x1 x2 x3 w, mu3 k1 k2 k3 μ, ⟨y1, x1, y2, x2, y3, x3, rfl, hy1, hy2, hy3, h0⟩, fun l w hI => by
    obtain ⟨y1, x1, y2, x2, y3, x3, rfl, hx1, hx2, hx3, hI⟩ := hI
    have := hs x1 x2 x3 w hI
    simp only [app, lam, hx1, hx2, hx3]
    have he : (fun (a : Den k1) (b : Den k2) (c : Den k3) (w' : World) => (∃ y1 x1 y2 x2 y3 x3, [LV.mk k1 a, LV.mk k2 b, LV.mk k3 c] = [y1, y2, y3] ∧ y1.as k1 = some x1 ∧ y2.as k2 = some x2 ∧ y3.as k3 = some x3 ∧ I x1 x2 x3 w') ∧ mu3 k1 k2 k3 μ [LV.mk k1 a, LV.mk k2 b, LV.mk k3 c] w' < mu3 k1 k2 k3 μ [y1, y2, y3] w) = fun a b c w' => I a b c w' ∧ μ a b c w' < μ x1 x2 x3 w := by
      funext a b c w'
      simp only [mu3, LV.as_mk, hx1, hx2, hx3, eq_iff_iff]
      constructor
      · rintro ⟨⟨y1, x1, y2, x2, y3, x3, h1, h2, h3, h4, h5⟩, h6⟩
        cases h1
        rw [LV.as_mk] at h2 h3 h4; cases h2; cases h3; cases h4
        exact ⟨h5, h6⟩
      · rintro ⟨h1, h2⟩; exact ⟨⟨_, a, _, b, _, c, rfl, LV.as_mk k1 a, LV.as_mk k2 b, LV.as_mk k3 c, h1⟩, h2⟩
    rw [he]; exact this⟩
/-! ways that meet -/
theorem join0 {A : (World → Prop) → Prop} {K : World → Prop} (R : World → Prop) (hA : ∀ k : World → Prop, (∀ w, R w → k w) → A k) (hK : ∀ w, R w → K w) : joinK [] A K := hA K hK
theorem join1 {a : Kd} {A : (Den a → World → Prop) → Prop} {K : Den a → World → Prop} (R : Den a → World → Prop) (hA : ∀ k : Den a → World → Prop, (∀ x w, R x w → k x w) → A k) (hK : ∀ x w, R x w → K x w) : joinK [a] A K := hA K hK
theorem join2 {a b : Kd} {A : (Den a → Den b → World → Prop) → Prop} {K : Den a → Den b → World → Prop} (R : Den a → Den b → World → Prop) (hA : ∀ k : Den a → Den b → World → Prop, (∀ x y w, R x y w → k x y w) → A k) (hK : ∀ x y w, R x y w → K x y w) : joinK [a, b] A K := hA K hK
end Go.Vw

/- Slices: lists of things that lie in a row of cells; appending. -/
namespace Go.Vw

/-- how a thing lies in cells -/
structure Enc (α : Type) where
  n : Nat
  f : α → List Value
  len : ∀ x, (f x).length = n
  pos : 0 < n
  cell : ∀ x, ∀ v ∈ f x, isCell v = true
def Enc.cells {α : Type} (E : Enc α) : List α → List Value
  | [] => []
  | x :: l => E.f x ++ E.cells l
theorem Enc.cells_length {α : Type} (E : Enc α) : ∀ l : List α, (E.cells l).length = l.length * E.n
  | [] => by simp [Enc.cells]
  | x :: l => by simp [Enc.cells, E.len, E.cells_length l, Nat.add_mul, Nat.add_comm]
theorem Enc.cells_append {α : Type} (E : Enc α) : ∀ l l' : List α, E.cells (l ++ l') = E.cells l ++ E.cells l'
  | [], l' => rfl
  | x :: l, l' => by simp [Enc.cells, E.cells_append l l']
theorem Enc.cells_get {α : Type} (E : Enc α) : ∀ (l : List α) (i j : Nat), j < E.n → (E.cells l)[i * E.n + j]? = l[i]?.bind fun x => (E.f x)[j]?
  | [], i, j, _ => by simp [Enc.cells]
  | x :: l, 0, j, h => by
    simp only [Enc.cells, Nat.zero_mul, Nat.zero_add]
    rw [List.getElem?_append_left (by rw [E.len]; exact h)]; rfl
  | x :: l, i + 1, j, h => by
    simp only [Enc.cells]
    rw [List.getElem?_append_right (by rw [E.len, Nat.add_mul]; omega), E.len, List.getElem?_cons_succ, ← E.cells_get l i j h]
    congr 1
    rw [Nat.add_mul]; omega
theorem Enc.cells_isCell {α : Type} (E : Enc α) : ∀ l : List α, ∀ v ∈ E.cells l, isCell v = true
  | [], v, h => by simp [Enc.cells] at h
  | x :: l, v, h => by
    simp only [Enc.cells, List.mem_append] at h
    rcases h with h | h
    · exact E.cell x v h
    · exact E.cells_isCell l v h
theorem Enc.cells_take {α : Type} (E : Enc α) (l : List α) (k : Nat) : (E.cells l).take (k * E.n) = E.cells (l.take k) := by
  by_cases hk : k ≤ l.length
  · have h1 : E.cells l = E.cells (l.take k) ++ E.cells (l.drop k) := by rw [← E.cells_append, List.take_append_drop]
    rw [h1, List.take_append_of_le_length (by rw [E.cells_length]; simp; rw [Nat.min_eq_left hk]; exact Nat.le_refl _)]
    rw [List.take_of_length_le (by rw [E.cells_length]; simp; rw [Nat.min_eq_left hk]; exact Nat.le_refl _)]
  · rw [List.take_of_length_le (by rw [E.cells_length]; exact Nat.mul_le_mul_right _ (by omega)), List.take_of_length_le (by omega)]
/-- writing over from a place -/
theorem spl_eq : ∀ (vs c : List Value) (o : Nat), o + vs.length ≤ c.length → spl c o vs = c.take o ++ vs ++ c.drop (o + vs.length)
  | [], c, o, _ => by simp [spl]
  | v :: r, c, o, h => by
    simp only [spl]
    rw [spl_eq r (c.set o v) (o + 1) (by simp at h ⊢; omega)]
    have ho : o < c.length := by simp at h; omega
    have h1 : (c.set o v).take (o + 1) = c.take o ++ [v] := by
      rw [List.set_eq_take_append_cons_drop, if_pos ho]
      rw [List.take_append, List.take_of_length_le (by simp; omega)]
      have : o + 1 - (c.take o).length = 1 := by simp; omega
      rw [this]; simp
    have h2 : (c.set o v).drop (o + 1 + r.length) = c.drop (o + (v :: r).length) := by
      have : o + (v :: r).length = o + 1 + r.length := by simp; omega
      rw [this, List.drop_set_of_lt (by omega)]
    rw [h1, h2]; simp
/-- an element that is written, in whole or in part -/
theorem Enc.cells_set {α : Type} (E : Enc α) : ∀ (l : List α) (i j : Nat) (vs : List Value) (x y : α) (rest : List Value), l[i]? = some x → j + vs.length ≤ E.n → spl (E.f x) j vs = E.f y →
    spl (E.cells l ++ rest) (i * E.n + j) vs = E.cells (l.set i y) ++ rest
  | [], i, j, vs, x, y, rest, h, _, _ => by simp at h
  | z :: l, 0, j, vs, x, y, rest, h, hj, hs => by
    simp at h; subst h
    simp only [Enc.cells, List.set_cons_zero, Nat.zero_mul, Nat.zero_add, List.append_assoc]
    rw [spl_eq _ _ _ (by simp [E.len]; omega)]
    rw [← hs, spl_eq _ _ _ (by rw [E.len]; exact hj)]
    rw [List.take_append_of_le_length (by rw [E.len]; omega), List.drop_append_of_le_length (by rw [E.len]; omega)]
    simp
  | z :: l, i + 1, j, vs, x, y, rest, h, hj, hs => by
    have ih := E.cells_set l i j vs x y rest (by simpa using h) hj hs
    simp only [Enc.cells, List.set_cons_succ, List.append_assoc]
    rw [← ih]
    have hi : i < l.length := by simp at h; exact (List.getElem?_eq_some_iff.1 h).1
    have hle : i * E.n + j + vs.length ≤ (E.cells l ++ rest).length := by
      simp only [List.length_append, E.cells_length]
      have : (i + 1) * E.n ≤ l.length * E.n := Nat.mul_le_mul_right _ hi
      rw [Nat.add_mul] at this; omega
    have hm : (i + 1) * E.n + j = E.n + (i * E.n + j) := by rw [Nat.add_mul]; omega
    rw [hm, spl_eq _ _ _ (by simp only [List.length_append, E.len] at hle ⊢; omega), spl_eq _ _ _ hle]
    have h1 : ∀ (k : Nat), (E.f z ++ (E.cells l ++ rest)).take (E.n + k) = E.f z ++ (E.cells l ++ rest).take k := fun k => by
      rw [← E.len z, List.take_length_add_append]
    have h2 : ∀ (k : Nat), (E.f z ++ (E.cells l ++ rest)).drop (E.n + k) = (E.cells l ++ rest).drop k := fun k => by
      rw [← E.len z, List.drop_length_add_append]
    rw [h1, Nat.add_assoc E.n, h2]
    simp

/-! ### slices that are read -/
def Rd (w : World) (p : PA) (c : List Value) : Prop := c = [] ∨ ∃ b o, p = some (b, o) ∧ ∀ i, i < c.length → w.cell? ⟨b, o + i, none⟩ = c[i]?
/-- the block of a slice -/
def bk (s : Sl) (b : Nat) : Prop := ∃ o, s.p = some (b, o)
/-- the block of a slice that can be read -/
def rk (s : Sl) (b : Nat) : Prop := s.cap ≠ 0 ∧ bk s b
structure RdS {α : Type} (w : World) (E : Enc α) (s : Sl) (l : List α) : Prop where
  len : s.len = l.length
  rd : Rd w s.p (E.cells l)
  has : s.len ≤ s.cap
theorem Rd.keep {w w' : World} {p : PA} {c : List Value} (h : Rd w p c) {D : Nat → Prop} (hM : Mod D w w') (hd : ∀ b o, p = some (b, o) → ¬ D b) : Rd w' p c := by
  rcases h with h | ⟨b, o, hp, h⟩
  · exact .inl h
  · refine .inr ⟨b, o, hp, fun i hi => ?_⟩
    have := h i hi
    rw [List.getElem?_eq_getElem hi] at this ⊢
    exact hM.cell this (hd b o hp)
theorem RdS.keep {α : Type} {w w' : World} {E : Enc α} {s : Sl} {l : List α} (h : RdS w E s l) {D : Nat → Prop} (hM : Mod D w w') (hd : ∀ b, rk s b → ¬ D b) : RdS w' E s l := by
  refine ⟨h.len, ?_, h.has⟩
  by_cases hc : s.cap = 0
  · have h1 := h.len
    have h2 := h.has
    have : l = [] := List.eq_nil_of_length_eq_zero (by omega)
    left; rw [this]; rfl
  · exact h.rd.keep hM fun b o hp => hd b ⟨hc, o, hp⟩
theorem RdS.at {α : Type} {w : World} {E : Enc α} {s : Sl} {l : List α} (h : RdS w E s l) {i : Nat} {x : α} (hi : l[i]? = some x) : ∃ b o, s.p = some (b, o) ∧ i < s.len ∧ ∀ j, j < E.n → w.cell? ⟨b, o + i * E.n + j, none⟩ = (E.f x)[j]? := by
  have hlt : i < l.length := (List.getElem?_eq_some_iff.1 hi).1
  have hle : (i + 1) * E.n ≤ l.length * E.n := Nat.mul_le_mul_right _ hlt
  rw [Nat.add_mul] at hle
  have hp := E.pos
  rcases h.rd with hc | ⟨b, o, hb, hr⟩
  · have := congrArg List.length hc
    rw [E.cells_length] at this
    simp only [List.length_nil] at this
    omega
  · refine ⟨b, o, hb, by rw [h.len]; exact hlt, fun j hj => ?_⟩
    rw [Nat.add_assoc, hr _ (by rw [E.cells_length]; omega), E.cells_get l i j hj, hi]; rfl
/-- a place in a slice that is read -/
theorem RdS.ix {α : Type} {w : World} {E : Enc α} {s : Sl} {l : List α} (h : RdS w E s l) {n : Nat} (hn : n = E.n) {i : Int} {k : Nat} (hk : i = (k : Int)) {x : α} (hx : l[k]? = some x) {K : Nat → Nat → Prop}
    (hK : ∀ b o, rk s b → (∀ j, j < E.n → w.cell? ⟨b, o + j, none⟩ = (E.f x)[j]?) → K b o) : Go.Vw.ix s n i K := by
  obtain ⟨b, o, hp, hlt, hr⟩ := h.at hx
  subst hn; subst hk
  exact ⟨b, o, hp, by have := h.has; omega, by omega, by omega, hK _ _ ⟨by have := h.has; omega, o, hp⟩ (by simpa using hr)⟩
theorem RdS.cells {α : Type} {w : World} {E : Enc α} {s : Sl} {l : List α} (h : RdS w E s l) {n : Nat} (hn : (E.cells l).length = n) : rdCells w s n (E.cells l) := by
  refine ⟨hn, ?_⟩
  have hh := h.has
  rw [h.len] at hh
  rcases h.rd with h | ⟨b, o, hp, h⟩
  · left; rw [← hn, h]; rfl
  · by_cases hl : l = []
    · left; rw [← hn, hl]; rfl
    · have := List.length_pos_iff.2 hl
      exact .inr ⟨b, o, hp, by omega, fun i hi => h i (by omega)⟩

/-! ### slices that are one's own -/
structure Vec {α : Type} (w : World) (E : Enc α) (s : Sl) (l : List α) : Prop where
  len : s.len = l.length
  own : (s.p = none ∧ s.cap = 0 ∧ l = []) ∨ ∃ b rest, s.p = some (b, 0) ∧ Blk w b (E.cells l ++ rest) ∧ (E.cells l ++ rest).length = s.cap * E.n
theorem Vec.nil {α : Type} (w : World) (E : Enc α) : Vec w E ⟨none, 0, 0⟩ [] := ⟨rfl, .inl ⟨rfl, rfl, rfl⟩⟩
theorem Vec.keep {α : Type} {w w' : World} {E : Enc α} {s : Sl} {l : List α} (h : Vec w E s l) {D : Nat → Prop} (hM : Mod D w w') (hd : ∀ b, bk s b → ¬ D b) : Vec w' E s l := by
  refine ⟨h.len, ?_⟩
  rcases h.own with h | ⟨b, rest, hp, hb, hc⟩
  · exact .inl h
  · exact .inr ⟨b, rest, hp, hM.blk hb (hd b ⟨0, hp⟩), hc⟩
theorem Vec.rd {α : Type} {w : World} {E : Enc α} {s : Sl} {l : List α} (h : Vec w E s l) : RdS w E s l := by
  refine ⟨h.len, ?_, ?_⟩
  · rcases h.own with ⟨_, _, hl⟩ | ⟨b, rest, hp, hb, hc⟩
    · left; rw [hl]; rfl
    · refine .inr ⟨b, 0, hp, fun i hi => ?_⟩
      rw [hb.cell, Nat.zero_add, List.getElem?_append_left hi]
  · rw [h.len]
    rcases h.own with ⟨_, _, hl⟩ | ⟨b, rest, hp, hb, hc⟩
    · rw [hl]; exact Nat.zero_le _
    · rw [List.length_append, E.cells_length] at hc
      exact Nat.le_of_mul_le_mul_right (by omega) E.pos
theorem Vec.lt {α : Type} {w : World} {E : Enc α} {s : Sl} {l : List α} (h : Vec w E s l) {b : Nat} (hb : bk s b) : b < w.heap.size := by
  obtain ⟨o, hp⟩ := hb
  rcases h.own with ⟨hn, _, _⟩ | ⟨b', rest, hp', hb, hc⟩
  · rw [hn] at hp; cases hp
  · rw [hp'] at hp; cases hp; exact hb.lt
/-- an element is written -/
theorem Vec.set {α : Type} {w : World} {E : Enc α} {s : Sl} {l : List α} (h : Vec w E s l) {k : Nat} {x y : α} (hx : l[k]? = some x) {b o : Nat} (hp : s.p = some (b, o)) {j : Nat} {vs : List LV} (hj : j + vs.length ≤ E.n) (hs : spl (E.f x) j (vs.map LV.toV) = E.f y)
    {K : World → Prop} (hK : ∀ w', Vec w' E s (l.set k y) → Mod (bk s) w w' → K w') : st w b (o + k * E.n + j) vs K := by
  rcases h.own with ⟨hn, _, _⟩ | ⟨b', rest, hp', hb, hc⟩
  · rw [hn] at hp; cases hp
  · rw [hp'] at hp; cases hp
    have hset := E.cells_set l k j (vs.map LV.toV) x y rest hx (by simpa using hj) hs
    have hlt : k < l.length := (List.getElem?_eq_some_iff.1 hx).1
    have hle : (k + 1) * E.n ≤ l.length * E.n := Nat.mul_le_mul_right _ hlt
    rw [Nat.add_mul] at hle
    have hb2 := hb.setCells (vs.map LV.toV) (o := k * E.n + j)
    rw [hset] at hb2
    rw [Nat.zero_add]
    refine ⟨fun i hi => ⟨?_, hb.frz _⟩, hK _ ⟨by simp [h.len], .inr ⟨b, rest, hp', hb2, ?_⟩⟩ ((Mod.setCells ..).mono fun x _ e => by subst e; exact ⟨0, hp'⟩)⟩
    · refine ⟨(E.cells l ++ rest)[k * E.n + j + i]'(by rw [List.length_append, E.cells_length]; omega), ?_⟩
      rw [hb.cell, List.getElem?_eq_getElem]
    · rw [← hc]; simp [E.cells_length]
/-- append -/
theorem Vec.app {α : Type} {w : World} {E : Enc α} {s x : Sl} {l l2 : List α} (h : Vec w E s l) (hr : RdS w E x l2) {e : TypeId} {n bytes : Nat} {zs : List LV} (hn : n = E.n) (hz : zs.length = E.n) (hlim : (l.length + l2.length + 1024) * (bytes + 1) ≤ 2 ^ 46)
    {K : Sl → World → Prop} (hK : ∀ s' w', Vec w' E s' (l ++ l2) → (∀ b, bk s' b → bk s b ∨ w.heap.size ≤ b) → Mod (bk s) w w' → (s'.p = s.p ∧ s'.cap = s.cap ∨ (∃ b, s'.p = some (b, 0) ∧ w.heap.size ≤ b) ∧ Mod (fun _ => False) w w') → K s' w') : ap w e n bytes zs s x K := by
  subst hn
  have hpos := E.pos
  refine ⟨E.cells l2, hr.cells (by rw [E.cells_length, hr.len]), E.cells_isCell l2, ?_, ?_, ?_⟩
  · intro hle hne
    rcases h.own with ⟨hn, hc0, hl⟩ | ⟨b, rest, hp, hb, hc⟩
    · rw [hc0] at hle; omega
    · have hlen : (E.cells l).length = s.len * E.n := by rw [E.cells_length, h.len]
      have hfit : s.len * E.n + (E.cells l2).length ≤ (E.cells l ++ rest).length := by
        rw [hc, E.cells_length, ← hr.len, ← Nat.add_mul]; exact Nat.mul_le_mul_right _ hle
      have hspl : spl (E.cells l ++ rest) (s.len * E.n) (E.cells l2) = E.cells (l ++ l2) ++ rest.drop (E.cells l2).length := by
        rw [spl_eq _ _ _ hfit, ← hlen, List.take_left, List.drop_length_add_append, E.cells_append]
      have hb2 := hb.setCells (E.cells l2) (o := s.len * E.n)
      rw [hspl] at hb2
      refine ⟨b, 0, hp, fun i hi => ⟨?_, hb.frz _⟩, hK _ _ ⟨by simp [h.len, hr.len], .inr ⟨b, _, hp, by rw [Nat.zero_add]; exact hb2, ?_⟩⟩ (fun b' hb' => .inl hb') ((Mod.setCells ..).mono fun x _ e => by subst e; exact ⟨0, hp⟩) (.inl ⟨rfl, rfl⟩)⟩
      · refine ⟨(E.cells l ++ rest)[s.len * E.n + i]'(by rw [E.cells_length, ← hr.len] at hfit; omega), ?_⟩
        rw [hb.cell, Nat.zero_add, List.getElem?_eq_getElem]
      · rw [← hspl]; simp [hc]
  · intro h0
    have h1 : l = [] := by have := h.len; cases l with | nil => rfl | cons => simp at this; omega
    have h2 : l2 = [] := by have := hr.len; cases l2 with | nil => rfl | cons => simp at this; omega
    subst h1; subst h2
    have hs : (⟨s.p, 0, s.cap⟩ : Sl) = s := by have := h.len; obtain ⟨p, len, cap⟩ := s; simp at this; subst this; rfl
    rw [hs]
    exact hK _ _ (by simpa using h) (fun b hb => .inl hb) (Mod.refl _ _) (.inl ⟨rfl, rfl⟩)
  · intro hlt
    refine ⟨by rw [h.len, hr.len]; exact hlim, E.cells l, h.rd.cells (by rw [E.cells_length, h.len]), fun c hc => ?_⟩
    refine hK _ _ ⟨by simp [h.len, hr.len], .inr ⟨w.heap.size, (List.replicate (c - (s.len + x.len)) (zs.map LV.toV)).flatten, rfl, ?_, ?_⟩⟩ (fun b hb => .inr ?_) ?_ (.inr ⟨⟨w.heap.size, rfl, Nat.le_refl _⟩, ?_⟩)
    · rw [E.cells_append]; exact Blk.new w.drew _ _
    · simp only [List.length_append, E.cells_length, List.length_flatten, List.map_replicate, List.sum_replicate_nat, List.length_map, hz]
      rw [← Nat.add_mul, ← hr.len, ← h.len]; congr 1; omega
    · obtain ⟨o, hb⟩ := hb; cases hb; exact Nat.le_refl _
    · exact (Mod.drew _ w).trans (Mod.alloc (bk s) w.drew _) (fun _ _ h => h) (fun _ _ h => h)
    · exact (Mod.drew _ w).trans (Mod.alloc (fun _ => False) w.drew _) (fun _ _ h => h) (fun _ _ h => h)
/-- make -/
theorem Vec.mkK {α : Type} {w : World} (E : Enc α) (z : α) {e : TypeId} {bytes : Nat} {zs : List LV} {n : Int} (k : Nat) (hk : n = (k : Int)) (hz : zs.map LV.toV = E.f z) (h1 : k < 2 ^ 48) (h2 : bytes * k ≤ 2 ^ 47)
    {K : Sl → World → Prop} (hK : ∀ w', Vec w' E ⟨some (w.heap.size, 0), k, k⟩ (List.replicate k z) → Blk w' w.heap.size (E.cells (List.replicate k z)) → Mod (fun _ => False) w w' → K ⟨some (w.heap.size, 0), k, k⟩ w') : Go.Vw.mk w e bytes zs n n K := by
  subst hk
  have hc : ∀ m : Nat, (List.replicate m (zs.map LV.toV)).flatten = E.cells (List.replicate m z) := by
    intro m
    induction m with
    | zero => rfl
    | succ m ih => rw [hz] at ih; simp only [List.replicate_succ, List.flatten_cons, Enc.cells, hz, ih]
  refine ⟨by omega, Int.le_refl _, by exact_mod_cast h1, by exact_mod_cast h2, ?_⟩
  have hb := Blk.new w (List.replicate k (zs.map LV.toV)).flatten e
  rw [hc] at hb
  refine hK _ ⟨by simp, .inr ⟨_, [], rfl, ?_, ?_⟩⟩ ?_ (Mod.alloc _ _ _)
  · rw [List.append_nil]; simp only [Int.toNat_natCast]; rw [hc]; exact hb
  · simp [E.cells_length]
  · simp only [Int.toNat_natCast]; rw [hc]; exact hb
end Go.Vw
