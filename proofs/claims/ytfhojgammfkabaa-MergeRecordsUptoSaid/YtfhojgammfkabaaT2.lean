/- A merge beside other objects; Err, asked; all things in a range. -/
import Derived.Test.YtfhojgammfkabaaT1
namespace Go.Proofs.Ytfhojgammfkabaa
open Go.Vw

/-- an object that is no row of cells -/
def isFar : Obj → Bool
  | .cells _ _ _ => false
  | _ => true
theorem isFar_loop {o : Obj} (h : isLoop (some o) = true) : isFar o = true := by cases o <;> first | rfl | cases h
theorem heap_lt {w : World} {l : Nat} {o : Obj} (h : w.heap[l]? = some o) : l < w.heap.size := (Array.getElem?_eq_some_iff.1 h).1
theorem far_cell {w : World} {b : Nat} {o : Obj} {c : List Value} (h : w.heap[b]? = some o) (hf : isFar o = true) : ¬ Blk w b c := by
  rintro ⟨e, he⟩
  rw [h] at he
  cases he; cases hf
section
variable {σ : Type} {S : Srcs σ} {w0 w : World} {D : Nat → Prop} {y : Ly} {r : List (Nat × List Value)} {t : σ} {F : Nat → Prop}
theorem MF.calm {p : PM} (h : MF S w0 D y p r t F w) {w' : World} (hM : Mod (fun _ => False) w w') : MF S w0 D y p r t F w' :=
  ⟨by obtain ⟨lo, rl, h1, h2⟩ := h.ex; exact ⟨lo, rl, h1.calm hM, h2⟩, h.win⟩
theorem MF.drop {p : PM} (h : MF S w0 D y p r t F w) {r' : List (Nat × List Value)} (hs : r'.Sublist r) : MF S w0 D y p r' t F w :=
  ⟨by obtain ⟨lo, rl, h1, h2⟩ := h.ex; exact ⟨lo, rl, h1.drop (List.Sublist.append_left hs _), h2⟩, h.win⟩
theorem MF.own {p : PM} (h : MF S w0 D y p r t F w) : ∀ q ∈ r, Blk w q.1 q.2 := h.rest.own
theorem MF.flt {p : PM} (h : MF S w0 D y p r t F w) {b : Nat} (hb : F b) : b < w.heap.size := S.lt _ _ _ _ h.src hb
/-- seen from now on -/
theorem MF.reb' {p : PM} (h : MF S w0 D y p r t F w) {w2 : World} (hM : Mod (fun _ => False) w w2) : ∃ D', MF S w2 D' y p r t F w2 ∧ (∀ b, D' b → b < w.heap.size ∧ (b < w0.heap.size → D b)) ∧ (∀ b o, w.heap[b]? = some o → isFar o = true → ¬ F b → ¬ D' b) := by
  obtain ⟨lo, rl, h1, h2⟩ := h.ex
  have h1' := h1.calm hM
  refine ⟨fun b => F b ∨ ∃ q ∈ ({ y with lo := lo } : Ly).m p.1 (rl ++ r), q.1 = b, ⟨⟨lo, rl, ⟨h1'.at_.from fun q hq => .inr ⟨q, hq, rfl⟩, h1'.ok, h1'.src, h1'.off, fun b _ hb => .inl hb⟩, h2⟩, h.win⟩, ?_, ?_⟩
  · rintro b (hb | ⟨q, hq, rfl⟩)
    · exact ⟨S.lt _ _ _ _ h1.src hb, fun hlt => h1.dom b hlt hb⟩
    · exact ⟨At.lt h1.at_ q hq, fun hlt => h1.at_.wr q hq hlt⟩
  · rintro b o ho hf hnf (hb | ⟨q, hq, rfl⟩)
    · exact hnf hb
    · exact far_cell ho hf (h1.at_.own q hq)
theorem MF.reb {p : PM} (h : MF S w0 D y p r t F w) : ∃ D', MF S w D' y p r t F w ∧ (∀ b, D' b → b < w.heap.size ∧ (b < w0.heap.size → D b)) ∧ (∀ b o, w.heap[b]? = some o → isFar o = true → ¬ F b → ¬ D' b) := h.reb' (Mod.refl _ _)
/-- and back -/
theorem MF.back {p p' : PM} (h : MF S w0 D y p r t F w) {D' : Nat → Prop} {r' : List (Nat × List Value)} {t' : σ} {F' : Nat → Prop} {w' : World} (h' : MF S w D' y p' r' t' F' w') (hD : ∀ b, D' b → b < w0.heap.size → D b) : MF S w0 D y p' r' t' F' w' := by
  obtain ⟨lo, rl, h1, h2⟩ := h'.ex
  have hsz := h.at0.size
  refine ⟨⟨lo, rl, ⟨⟨h.at0.trans h1.at_.mod (fun _ _ h => h) fun b hb hd => hD b hd hb, h1.at_.own, h1.at_.nodup, fun q hq hlt => hD _ (h1.at_.wr q hq (Nat.lt_of_lt_of_le hlt hsz)) hlt⟩, h1.ok, h1.src, h1.off, fun b hb hf => hD b (h1.dom b (Nat.lt_of_lt_of_le hb hsz) hf) hb⟩, h2⟩, h'.win⟩
/-- the next thing, beside other objects -/
theorem next_far (hy : Of S y) {cmp : Thing → Thing → Int} (hc : CmpOk y.cv cmp) (hn : y.n ≤ 64) {p : PM} (hw0 : p.1.bg = false → p.1.win = 0 ∧ p.1.ov = false) (h : MF S w0 D y p r t F w) {K : Int → Int → Bool → Int → World → Prop}
    (hK : ∀ w' F', MF S w0 D y (nextM S cmp y.n p t).2.1 r (nextM S cmp y.n p t).2.2 F' w' → (∀ b o, w.heap[b]? = some o → isFar o = true → ¬ F b → w'.heap[b]? = some o ∧ ¬ F' b) →
      K (nextM S cmp y.n p t).1.1.1 (nextM S cmp y.n p t).1.1.2 (nextM S cmp y.n p t).1.2.1 (nextM S cmp y.n p t).1.2.2 w') :
    callK Try.prog 27 [.leaf (.ptr (some (y.b, 0)))] w (.tup [.agg [.int .i64, .int .i64], .leaf .bool, .leaf (.int .i64)]) K := by
  obtain ⟨D', hr, d1, d2⟩ := h.reb
  refine next_ok hy hc hn hw0 hr fun w' F' h' => hK w' F' (h.back h' fun b hb hlt => (d1 b hb).2 hlt) fun b o ho hf hnf => ?_
  have hlt := heap_lt ho
  have hnd := d2 b o ho hf hnf
  obtain ⟨lo, rl, h1, _⟩ := h'.ex
  exact ⟨(h'.at0.block b hlt hnd).trans ho, fun hF => hnd (h1.dom b hlt hF)⟩
/-- the caller's own blocks have turned: other objects have not -/
theorem MF.far {p : PM} (h : MF S w0 D y p r t F w) {w' : World} (hM : Mod (Ks r) w w') {b : Nat} {o : Obj} (ho : w.heap[b]? = some o) (hf : isFar o = true) : w'.heap[b]? = some o := by
  refine (hM.block b (heap_lt ho) ?_).trans ho
  rintro ⟨q, hq, rfl⟩
  exact far_cell ho hf (h.own q hq)
/-- another object turns -/
theorem MF.put {p : PM} (h : MF S w0 D y p r t F w) {b : Nat} {o o' : Obj} (ho : w.heap[b]? = some o) (hf : isFar o = true) (hnf : ¬ F b) (hb : S.base ≤ b) (hw : w0.heap.size ≤ b) : MF S w0 D y p r t F (w.putObj b o') := by
  obtain ⟨lo, rl, h1, h2⟩ := h.ex
  refine ⟨⟨lo, rl, h1.own (h1.at_.keep (Mod.putObj w b o') (fun x hx e => by omega) fun q hq e => ?_) h1.ok (Mod.putObj w b o') (fun x hg e => ?_) h1.off.r, h2⟩, h.win⟩
  · rw [← e] at ho; exact far_cell ho hf (h1.at_.own q hq)
  · subst e
    rcases hg with hg | hg
    · exact hnf hg
    · omega
theorem err_ok {p : PM} (h : MF S w0 D y p r t F w) {K : Int → World → Prop} (hK : K p.1.e w) : callK Try.prog 25 [.leaf (.ptr (some (y.b, 0)))] w (.one (.leaf (.int .i64))) K := by
  refine go_merge_Merge_Err_winnowref11_Thing _ _ _ ?_
  unfold S_merge_Merge_Err_winnowref11_Thing
  obtain ⟨lo, rl, h1, _⟩ := h.ex
  exact ifK_f rfl (dr_some (h1.at_.ld 0 (k := .int .i64) p.1.e rfl rfl hK))
/-- a thing that has been told: the merge is not over -/
theorem next_ov {cmp : Thing → Thing → Int} {n : Nat} {p : PM} (h : (nextM S cmp n p t).1.2.1 = true) : (nextM S cmp n p t).2.1.1.ov = false := by
  unfold nextM at h ⊢
  split at h
  · cases h
  rename_i hov
  have hov : p.1.ov = false := by simpa using hov
  rw [if_neg (by rw [hov]; decide)]
  split at h
  · cases h
  rename_i hq
  rw [if_neg hq]
  split at h
  · cases h
  rename_i hc
  rw [if_neg hc]
  have hq : (qM S cmp n p t).1 = 0 := by simpa using hq
  show (qM S cmp n p t).2.1.1.ov = false
  unfold qM at hq ⊢
  split at hq
  · rename_i hb
    rw [if_pos hb]
    split at hq
    · rename_i ha; exact absurd hq ha
    · rename_i ha
      rw [if_neg ha]
      have ha : (asksM S cmp p.1 t p.1.win).1 = 0 := by simpa using ha
      obtain ⟨_, _, a3, _⟩ := asksM_keep (S := S) (t := t) (cmp := cmp) (s := p.1) (i := p.1.win)
      exact (playsM_keep.2.1).trans ((a3 ha).1.trans hov)
  · rename_i hb
    rw [if_neg hb]
    obtain ⟨_, k2, _, _⟩ := beginM_keep (S := S) (t := t) (cmp := cmp) (n := n) (s := p.1)
    exact (k2 hq).1.trans hov
end
/-- how often all have been asked -/
def sumTo (k : Nat → Nat) : Nat → Nat
  | 0 => 0
  | n + 1 => sumTo k n + k n
theorem sumTo_mono (k : Nat → Nat) {i j : Nat} (h : i ≤ j) : sumTo k i ≤ sumTo k j := by
  induction j with
  | zero => have : i = 0 := by omega
            subst this; exact Nat.le_refl _
  | succ j ih =>
    by_cases e : i = j + 1
    · subst e; exact Nat.le_refl _
    · have := ih (by omega); rw [sumTo]; omega
theorem asked_ok {f : Feeds} {s : Nat → FS} {F : Nat → Prop} {w : World} {l : Sl} (hr : RdS w EP l ((List.range f.n).map fun i => some (f.fb i, 0))) (hI : f.I s F w) (hn : f.n ≤ 1048576) {k : Nat → Nat} (hk : ∀ i, i < f.n → (s i).asks = (k i : Nat)) (hs : sumTo k f.n ≤ 4611686018427387904)
    {K : Int → World → Prop} (hK : K (sumTo k f.n : Nat) w) : callK Try.prog 24 [.leaf (.sl l)] w (.one (.leaf (.int .i64))) K := by
  refine go_winnowlaw11_asked _ _ _ ?_
  unfold S_winnowlaw11_asked
  refine join1 (a := .int .i64) (fun x w' => x = (sumTo k f.n : Nat) ∧ w' = w) (fun k' hk' => ?_) ?_
  · refine loop2 (k1 := .int .i64) (k2 := .int .i64) (fun m x w' => ∃ i : Nat, x = i ∧ i ≤ f.n ∧ m = (sumTo k i : Nat) ∧ w' = w) (fun _ x _ => f.n - x.toNat) rfl rfl ⟨0, rfl, Nat.zero_le _, rfl, rfl⟩ ?_
    rintro m x w6 ⟨i, rfl, hi, rfl, hw6⟩
    rw [hw6]
    refine ifK_intro (fun hlt => ?_) (fun hlt => ?_)
    · have hlt' : i < f.n := by rw [hr.len] at hlt; simpa using hlt
      have hp : ((List.range f.n).map fun i => (some (f.fb i, 0) : PA))[i]? = some (some (f.fb i, 0)) := by simp [hlt']
      refine hr.ix rfl rfl hp fun b o _ hc => ld_cell (k := .ptr) (some (f.fb i, 0)) (hc 0 (by decide)) (dr_some ?_)
      refine ld_cell (k := .int .i64) (s i).asks (((hI.blk i hlt').cell 3).trans rfl) ?_
      have h2 := sumTo_mono k (i := i + 1) (j := f.n) hlt'
      rw [sumTo] at h2
      have e1 : w64 (((sumTo k i : Nat) : Int) + (s i).asks) = ((sumTo k (i + 1) : Nat) : Int) := by rw [hk i hlt', w64_in (by omega) (by omega), sumTo]; omega
      rw [e1, set_step (by omega)]
      exact ⟨⟨i + 1, rfl, hlt', rfl, rfl⟩, by simp; omega⟩
    · have hge : i = f.n := by rw [hr.len] at hlt; simp at hlt; omega
      subst hge
      exact hk' _ _ ⟨rfl, rfl⟩
  · rintro _ w6 ⟨rfl, hw6⟩
    rw [hw6]; exact hK
/-! ### all things in a range -/
section
variable {σ : Type} {S : Srcs σ} {w0 : World} {D : Nat → Prop} {y : Ly} {en : Nat → Int} {St : σ → (Nat → Option (List Thing)) → Prop} {tot : Nat} {Fin : (Nat → Option (List Thing)) → Prop} {err : Int}
/-- what holds while the things of a merge are gone through: X: other objects that stand -/
structure Go' (S : Srcs σ) (w0 : World) (D : Nat → Prop) (y : Ly) (en : Nat → Int) (St : σ → (Nat → Option (List Thing)) → Prop) (tot : Nat) (Fin : (Nat → Option (List Thing)) → Prop) (err : Int) (X : List (Nat × Obj)) (p : PM) (ro : List (Nat × List Value)) (t : σ) (F : Nat → Prop) (c : Nat) (rest : List Thing) (w : World) : Prop where
  mf : MF S w0 D y p ro t F w
  tell : Tell S en St tot Fin p t c rest err
  far : ∀ q ∈ X, w.heap[q.1]? = some q.2 ∧ ¬ F q.1
theorem all_ok (hS : Lists S en St) (hof : Of S y) (hcv : CmpOk y.cv cmpT) (hn : y.n ≤ 64) {X : List (Nat × Obj)} (hX : ∀ q ∈ X, isFar q.2 = true) {G : List (Nat × List Value) → Nat → List Thing → Prop} {bm : Nat}
    (hbm : ∀ ro c rest, G ro c rest → (bm, [(LV.ptr (some (y.b, 0))).toV]) ∈ ro) {yv : Value} {Kend : World → Prop}
    (hyield : ∀ p t F ro c x rest w' (K : Bool → World → Prop), Go' S w0 D y en St tot Fin err X p ro t F (c + 1) rest w' → p.1.ov = false → G ro c (x :: rest) →
      (∀ ro' w'', Go' S w0 D y en St tot Fin err X p ro' t F (c + 1) rest w'' → G ro' (c + 1) rest → K true w'') →
      (∀ w'', Kend w'' → K false w'') →
      callV Try.prog yv [.agg [.int .i64 x.1, .int .i64 x.2]] w' (.one (.leaf .bool)) K)
    (hend : ∀ p t F ro c w', Go' S w0 D y en St tot Fin err X p ro t F c [] w' → p.1.ov = true → G ro c [] → Kend w')
    {p : PM} {ro : List (Nat × List Value)} {t : σ} {F : Nat → Prop} {c : Nat} {rest : List Thing} {w : World} (h : Go' S w0 D y en St tot Fin err X p ro t F c rest w) (hG : G ro c rest) :
    callK Try.prog 44 [.leaf (.val yv), .leaf (.ptr (some (bm, 0)))] w (.tup []) Kend := by
  refine go_merge_Merge_All_1_winnowref11_Thing _ _ _ _ _ ?_
  unfold S_merge_Merge_All_1_winnowref11_Thing
  refine loop0G (γ := PM × σ × (Nat → Prop) × List (Nat × List Value) × Nat × List Thing) (fun g w' => Go' S w0 D y en St tot Fin err X g.1 g.2.2.2.1 g.2.1 g.2.2.1 g.2.2.2.2.1 g.2.2.2.2.2 w' ∧ G g.2.2.2.1 g.2.2.2.2.1 g.2.2.2.2.2)
    (fun g => g.2.2.2.2.2.length) (p, t, F, ro, c, rest) ⟨h, hG⟩ ?_
  clear h hG
  rintro ⟨p, t, F, ro, c, rest⟩ w5 KK ⟨h, hG⟩ hKK
  simp only at h hG hKK
  have hbmw := h.mf.own _ (hbm _ _ _ hG)
  refine ld_cell (k := .ptr) (some (y.b, 0)) ((hbmw.cell 0).trans rfl) ?_
  refine next_far hof hcv hn h.tell.bg0 h.mf fun w11 F11 h11 hfar => ?_
  have hSn : S.n = y.n := hof.n
  obtain ⟨n1, n2⟩ := next_tell hS h.tell
  rw [hSn] at n1 n2
  have hX11 : ∀ q ∈ X, w11.heap[q.1]? = some q.2 ∧ ¬ F11 q.1 := fun q hq => hfar q.1 q.2 (h.far q hq).1 (hX q hq) (h.far q hq).2
  refine h11.rest.alK fun b12 w13 _ h13 _ => ?_
  have h13' : At w11 (Ks ro) ((b12, zT) :: ro) w13 := h13.perm (List.perm_append_comm (l₁ := [_]))
  refine h13'.st 0 rfl (Nat.le_refl 2) fun w14 hA14 _ => ?_
  have hA14 : At w11 (Ks ro) ((b12, [.int .i64 (nextM S cmpT y.n p t).1.1.1, .int .i64 (nextM S cmpT y.n p t).1.1.2]) :: ro) w14 := hA14
  have hX14 : ∀ q ∈ X, w14.heap[q.1]? = some q.2 ∧ ¬ F11 q.1 := fun q hq => ⟨h11.far hA14.mod (hX11 q hq).1 (hX q hq), (hX11 q hq).2⟩
  have hm14 := h11.law (hA14.sub (List.sublist_cons_self _ _))
  cases hrest : rest with
  | nil =>
    obtain ⟨r1, r2, r3⟩ := n2 hrest
    rw [hrest] at hG
    have hend' : Kend w14 := hend _ _ _ _ _ w14 ⟨hm14, r2, hX14⟩ r3 hG
    rw [r1]
    refine join1 (a := .bool) (fun b w' => b = true ∧ w' = w14) (fun k hk => ifK_t rfl (hk _ _ ⟨rfl, rfl⟩)) ?_
    rintro _ w' ⟨rfl, hw'⟩
    rw [hw']; exact ifK_t rfl hend'
  | cons x rest' =>
    obtain ⟨r1, r2, r3⟩ := n1 x rest' hrest
    have hov := next_ov (S := S) (cmp := cmpT) (n := y.n) (p := p) (t := t) (by rw [r1])
    rw [hrest] at hG hKK
    rw [r1] at hA14 ⊢
    refine join1 (a := .bool) (fun b w' => (b = false ∧ ∃ ro', Go' S w0 D y en St tot Fin err X (nextM S cmpT y.n p t).2.1 ro' (nextM S cmpT y.n p t).2.2 F11 (c + 1) rest' w' ∧ G ro' (c + 1) rest') ∨ (b = true ∧ Kend w')) (fun k hk => ?_) ?_
    · refine ifK_f rfl (hA14.ld 0 (k := .int .i64) x.1 rfl rfl (hA14.ld 0 (k := .int .i64) x.2 rfl rfl ?_))
      refine hyield _ _ _ _ c x rest' w14 _ ⟨hm14, r2, hX14⟩ hov hG (fun ro' w'' h1 h2 => hk _ _ (.inl ⟨rfl, ro', h1, h2⟩)) fun w'' h1 => hk _ _ (.inr ⟨rfl, h1⟩)
    · rintro b w' (⟨rfl, ro', h1, h2⟩ | ⟨rfl, h1⟩)
      · exact ifK_f rfl (hKK (_, _, _, ro', c + 1, rest') w' ⟨h1, h2⟩ (by simp))
      · exact ifK_t rfl h1
end
end Go.Proofs.Ytfhojgammfkabaa
