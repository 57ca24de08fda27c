/- All things in a range: the rule for a law. -/
import Derived.Test.YtfhojgammfkabaaT2
import Derived.Test.YtfhojgammfkabaaN0
namespace Go.Proofs.Ytfhojgammfkabaa
open Go.Vw

section
variable {σ : Type} {S : Srcs σ} {w0 w : World} {D : Nat → Prop} {y : Ly} {r : List (Nat × List Value)} {t : σ} {F : Nat → Prop}
theorem MF.base {p : PM} (h : MF S w0 D y p r t F w) : S.base ≤ w.heap.size := by
  obtain ⟨lo, rl, h1, _⟩ := h.ex
  have hlt := At.lt h1.at_ _ (by simp [Ly.m] : (y.b, ({ y with lo := lo } : Ly).st p.1) ∈ ({ y with lo := lo } : Ly).m p.1 (rl ++ r))
  have : ¬ y.b < S.base := fun hb => h1.off.b (.inr hb)
  simp at hlt
  omega
end
abbrev Mk : Obj := .deferred (some [])
section
variable {σ : Type} {S : Srcs σ} {w0 : World} {D : Nat → Prop} {y : Ly} {en : Nat → Int} {St : σ → (Nat → Option (List Thing)) → Prop} {tot : Nat} {Fin : (Nat → Option (List Thing)) → Prop} {err : Int}
theorem range_all (hS : Lists S en St) (hof : Of S y) (hcv : CmpOk y.cv cmpT) (hn : y.n ≤ 64) {X0 : List (Nat × Obj)} (hX0 : ∀ q ∈ X0, isFar q.2 = true) {G : List (Nat × List Value) → Nat → List Thing → Prop} {Stop : Nat → List (Nat × List Value) → Nat → List Thing → Prop} {bm : Nat}
    (hbm : ∀ ro c rest, G ro c rest → (bm, [(LV.ptr (some (y.b, 0))).toV]) ∈ ro)
    {p : PM} {ro : List (Nat × List Value)} {t : σ} {F : Nat → Prop} {c : Nat} {rest : List Thing} {w : World} (h : Go' S w0 D y en St tot Fin err X0 p ro t F c rest w) (hG : G ro c rest)
    {B : Nat → Int → Int → World → (World → (World → Prop) → Prop) → (World → Prop) → (Nat → World → Prop) → Prop} {An : Nat → World → Prop} {As : List (Nat → World → Prop)}
    (hB : ∀ (l : Nat) p t F ro c x rest w' (beg : World → (World → Prop) → Prop) (next : World → Prop) (leave : Nat → World → Prop) (Xr Xb : World → Prop), MF S w0 D y p ro t F w' → p.1.ov = false → Tell S en St tot Fin p t (c + 1) rest err → G ro c (x :: rest) →
      Xr w' → (∀ u u' ro', MF S w0 D y p ro' t F u → Mod (Ks ro') u u' → Xr u → Xr u') →
      (∀ ro' u (K' : World → Prop), MF S w0 D y p ro' t F u → Xr u → (∀ u', MF S w0 D y p ro' t F u' → Xb u' → K' u') → beg u K') →
      (∀ u u' ro', MF S w0 D y p ro' t F u → Mod (Ks ro') u u' → Xb u → Xb u') →
      (∀ ro' u, MF S w0 D y p ro' t F u → Xb u → G ro' (c + 1) rest → next u) →
      (∀ j ro' u, MF S w0 D y p ro' t F u → Xb u → Stop j ro' (c + 1) rest → leave j u) → B l x.1 x.2 w' beg next leave)
    (hAn : ∀ p t F ro c u, Go' S w0 D y en St tot Fin err ((w.heap.size, Mk) :: X0) p ro t F c [] u → p.1.ov = true → G ro c [] → An w.heap.size u)
    (hAs : ∀ j p t F ro c rest u, Go' S w0 D y en St tot Fin err ((w.heap.size, Mk) :: X0) p ro t F c rest u → p.1.ov = false → Stop j ro c rest → ∃ A, As[j]? = some A ∧ A w.heap.size u) :
    rangeK Try.prog [.agg [.int .i64, .int .i64]] (.func (.func 44) #[] #[(LV.toV (.ptr (some (bm, 0))))]) none w B An As := by
  refine ⟨fun l0 h => (by cases h), fun R w1 l hR hw1 hl HY => ?_⟩
  have hw1 : w1 = w.alloc Mk := hw1
  refine callF_func (CS_ok 44 rfl) [.leaf (.val (.func (.yield l) #[] #[])), .leaf (.ptr (some (bm, 0)))] (by rfl) ?_
  have M1 : Mod (fun _ => False) w w1 := hw1 ▸ Mod.alloc _ _ _
  have M2 : Mod (fun _ => False) w1 (w1.alloc (R .ready)) := Mod.alloc _ _ _
  have hfR : ∀ s, isFar (R s) = true := fun s => isFar_loop (hR s)
  have hr1 : w1.heap[w.heap.size]? = some Mk := by rw [hw1]; exact World.alloc_heap_new _ _
  have hrlt := heap_lt hr1
  have hrl : w.heap.size ≠ l := by omega
  have hwl : w.heap.size ≤ l := by omega
  have hr2 : (w1.alloc (R .ready)).heap[w.heap.size]? = some Mk := (M2.block _ hrlt id).trans hr1
  have hl2 : (w1.alloc (R .ready)).heap[l]? = some (R .ready) := by rw [hl]; exact World.alloc_heap_new _ _
  have hm2 := (h.mf.calm M1).calm M2
  have hbase : S.base ≤ l := Nat.le_trans h.mf.base hwl
  have hw0l : w0.heap.size ≤ l := Nat.le_trans h.mf.at0.size hwl
  have hX2 : ∀ q ∈ (l, R .ready) :: (w.heap.size, Mk) :: X0, (w1.alloc (R .ready)).heap[q.1]? = some q.2 ∧ ¬ F q.1 := by
    intro q hq
    rcases List.mem_cons.1 hq with rfl | hq
    · exact ⟨hl2, fun hf => by have := h.mf.flt hf; simp only at this; omega⟩
    rcases List.mem_cons.1 hq with rfl | hq
    · exact ⟨hr2, fun hf => Nat.lt_irrefl _ (h.mf.flt hf)⟩
    · obtain ⟨a1, a2⟩ := h.far q hq
      have hlt := heap_lt a1
      exact ⟨(M2.block _ (Nat.lt_of_lt_of_le hlt M1.size) id).trans ((M1.block _ hlt id).trans a1), a2⟩
  have hXl : ∀ q ∈ X0, q.1 ≠ l := fun q hq e => by have := heap_lt (h.far q hq).1; omega
  -- the objects but the round's own, when that has turned
  have hput : ∀ {u : World} {F : Nat → Prop} {s : LSt}, (∀ q ∈ (w.heap.size, Mk) :: X0, u.heap[q.1]? = some q.2 ∧ ¬ F q.1) → ∀ q ∈ (w.heap.size, Mk) :: X0, (u.putObj l (R s)).heap[q.1]? = some q.2 ∧ ¬ F q.1 := by
    intro u F s hu q hq
    refine ⟨?_, (hu q hq).2⟩
    rw [World.putObj_heap_other]
    · exact (hu q hq).1
    · rcases List.mem_cons.1 hq with rfl | hq
      · exact fun e => hrl e
      · exact hXl q hq
  refine all_ok (X := (l, R .ready) :: (w.heap.size, Mk) :: X0) (G := G) hS hof hcv hn ?_ hbm ?_ ?_ ⟨hm2, h.tell, hX2⟩ hG
  · intro q hq
    rcases List.mem_cons.1 hq with rfl | hq
    · exact hfR _
    rcases List.mem_cons.1 hq with rfl | hq
    · rfl
    · exact hX0 q hq
  · intro p t F ro c x rest w' K hgo hov hG hcont hstop
    have hrec := (hgo.far (l, R .ready) (by simp)).1
    have hnl := (hgo.far (l, R .ready) (by simp)).2
    have hX' : ∀ q ∈ (w.heap.size, Mk) :: X0, w'.heap[q.1]? = some q.2 ∧ ¬ F q.1 := fun q hq => hgo.far q (List.mem_cons_of_mem _ hq)
    refine HY [.int .i64 x.1, .int .i64 x.2] w' K hrec ?_
    refine hB l p t F ro c x rest w' _ _ _ (fun u => u.heap[l]? = some (R .ready) ∧ ∀ q ∈ (w.heap.size, Mk) :: X0, u.heap[q.1]? = some q.2) (fun u => u.heap[l]? = some (R .busy) ∧ ∀ q ∈ (w.heap.size, Mk) :: X0, u.heap[q.1]? = some q.2) hgo.mf hov hgo.tell hG ⟨hrec, fun q hq => (hX' q hq).1⟩ ?_ ?_ ?_ ?_ ?_
    · rintro u u' ro' hm hM ⟨x1, x2⟩
      refine ⟨hm.far hM x1 (hfR _), fun q hq => hm.far hM (x2 q hq) ?_⟩
      rcases List.mem_cons.1 hq with rfl | hq
      · rfl
      · exact hX0 q hq
    · rintro ro' u K' hm ⟨x1, x2⟩ hK'
      have hx2 : ∀ q ∈ (w.heap.size, Mk) :: X0, u.heap[q.1]? = some q.2 ∧ ¬ F q.1 := fun q hq => ⟨x2 q hq, (hX' q hq).2⟩
      exact ⟨x1, hK' _ (hm.put x1 (hfR _) hnl hbase hw0l) ⟨World.putObj_heap_same (heap_lt x1), fun q hq => (hput hx2 q hq).1⟩⟩
    · rintro u u' ro' hm hM ⟨x1, x2⟩
      refine ⟨hm.far hM x1 (hfR _), fun q hq => hm.far hM (x2 q hq) ?_⟩
      rcases List.mem_cons.1 hq with rfl | hq
      · rfl
      · exact hX0 q hq
    · rintro ro' u hm ⟨x1, x2⟩ hG'
      have hx2 : ∀ q ∈ (w.heap.size, Mk) :: X0, u.heap[q.1]? = some q.2 ∧ ¬ F q.1 := fun q hq => ⟨x2 q hq, (hX' q hq).2⟩
      refine ⟨x1, hcont ro' _ ⟨hm.put x1 (hfR _) hnl hbase hw0l, hgo.tell, fun q hq => ?_⟩ hG'⟩
      rcases List.mem_cons.1 hq with rfl | hq
      · exact ⟨World.putObj_heap_same (heap_lt x1), hnl⟩
      · exact hput hx2 q hq
    · rintro j ro' u hm ⟨x1, x2⟩ hS'
      have hx2 : ∀ q ∈ (w.heap.size, Mk) :: X0, u.heap[q.1]? = some q.2 ∧ ¬ F q.1 := fun q hq => ⟨x2 q hq, (hX' q hq).2⟩
      have hd : (u.putObj l (R (.done j))).heap[l]? = some (R (.done j)) := World.putObj_heap_same (heap_lt x1)
      obtain ⟨A, a1, a2⟩ := hAs j p t F ro' (c + 1) rest ((u.putObj l (R (.done j))).putObj l (R (.over (some j)))) ⟨(hm.put x1 (hfR _) hnl hbase hw0l).put hd (hfR _) hnl hbase hw0l, hgo.tell, hput (hput hx2)⟩ hov hS'
      exact ⟨x1, hstop _ (.inr ⟨j, A, a1, hd, a2⟩)⟩
  · intro p t F ro c w' hgo hov hG
    have hrec := (hgo.far (l, R .ready) (by simp)).1
    have hnl := (hgo.far (l, R .ready) (by simp)).2
    have hX' : ∀ q ∈ (w.heap.size, Mk) :: X0, w'.heap[q.1]? = some q.2 ∧ ¬ F q.1 := fun q hq => hgo.far q (List.mem_cons_of_mem _ hq)
    exact .inl ⟨hrec, hAn p t F ro c _ ⟨hgo.mf.put hrec (hfR _) hnl hbase hw0l, hgo.tell, hput hX'⟩ hov hG⟩
end
end Go.Proofs.Ytfhojgammfkabaa
