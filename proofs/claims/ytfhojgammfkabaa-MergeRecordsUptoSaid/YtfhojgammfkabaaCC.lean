/- A merge of records: the texts of a merge of things, printed again by tools/rec.py. -/
import Derived.Test.YtfhojgammfkabaaT6
import Derived.Test.YtfhojgammfkabaaCB
namespace Go.Proofs.Ytfhojgammfkabaa.Rc
open Go.Vw
section
variable {σ : Type} {S : Srcs σ} {w0 w : World} {D : Nat → Prop} {y : Ly} {r : List (Nat × List Value)} {t : σ} {F : Nat → Prop}
theorem MI.law {s : MS} {rl : List (Nat × List Value)} (h : MI S w0 D y s (rl ++ r) t F w) {r' : List (Nat × List Value)} {w' : World} (hA : At w (Ks r) r' w') : MI S w0 D y s (rl ++ r') t F w' := by
  have hmem : ∀ q ∈ r, q ∈ y.m s (rl ++ r) := fun q hq => by simp [Ly.m, hq]
  have hnd := h.at_.nodup
  have hsplit : y.m s (rl ++ r) = y.m s rl ++ r := by simp [Ly.m]
  have hsplit' : y.m s (rl ++ r') = y.m s rl ++ r' := by simp [Ly.m]
  have hdis : ∀ p ∈ y.m s rl, ¬ Ks r p.1 := by
    rintro p hp ⟨q, hq, e⟩
    rw [hsplit, List.map_append, List.nodup_append] at hnd
    exact hnd.2.2 _ (List.mem_map_of_mem hp) _ (List.mem_map_of_mem hq) e.symm
  have hbase : ∀ b, w.heap.size ≤ b → ¬ S.G F b := fun b hb hg => by
    rcases hg with hg | hg
    · have := S.lt _ _ _ _ h.src hg; omega
    · have := At.lt h.at_ _ (by simp [Ly.m] : (y.b, y.st s) ∈ y.m s (rl ++ r))
      exact h.off.b (.inr (by simp at this; omega))
  have hold : ∀ p ∈ y.m s rl, p ∈ y.m s (rl ++ r) := fun p hp => by rw [hsplit]; exact List.mem_append_left _ hp
  refine ⟨⟨h.at_.mod.trans hA.mod (fun _ _ h => h) ?_, ?_, ?_, ?_⟩, ⟨h.ok.hd, h.ok.sm, h.ok.gd⟩, S.keepG h.src hA.mod ?_, Off.of (s := s) ?_, h.dom⟩
  · rintro b hb ⟨q, hq, rfl⟩; exact h.at_.wr q (hmem q hq) hb
  · intro p hp
    rw [hsplit'] at hp
    rcases List.mem_append.1 hp with hp | hp
    · exact hA.mod.blk (h.at_.own p (hold p hp)) (hdis p hp)
    · exact hA.own p hp
  · rw [hsplit', List.map_append, List.nodup_append]
    rw [hsplit, List.map_append, List.nodup_append] at hnd
    refine ⟨hnd.1, hA.nodup, ?_⟩
    rintro a ha b hb rfl
    obtain ⟨p, hp, rfl⟩ := List.mem_map.1 ha
    obtain ⟨q, hq, e⟩ := List.mem_map.1 hb
    have hlt := At.lt h.at_ p (hold p hp)
    have := hA.wr q hq (by omega)
    rw [e] at this
    exact hdis p hp this
  · intro p hp hlt
    rw [hsplit'] at hp
    rcases List.mem_append.1 hp with hp | hp
    · exact h.at_.wr p (hold p hp) hlt
    · obtain ⟨q, hq, e⟩ := hA.wr p hp (Nat.lt_of_lt_of_le hlt h.at_.mod.size)
      rw [← e] at hlt ⊢; exact h.at_.wr q (hmem q hq) hlt
  · rintro b hg ⟨q, hq, rfl⟩; exact h.off.all s q (hmem q hq) hg
  · intro p hp hg
    rw [hsplit'] at hp
    rcases List.mem_append.1 hp with hp | hp
    · exact h.off.all s p (hold p hp) hg
    · rcases Nat.lt_or_ge p.1 w.heap.size with hlt | hge
      · obtain ⟨q, hq, e⟩ := hA.wr p hp hlt
        rw [← e] at hg; exact h.off.all s q (hmem q hq) hg
      · exact hbase _ hge hg
theorem MF.law {p : PM} (h : MF S w0 D y p r t F w) {r' : List (Nat × List Value)} {w' : World} (hA : At w (Ks r) r' w') : MF S w0 D y p r' t F w' :=
  ⟨by obtain ⟨lo, rl, h1, h2⟩ := h.ex; exact ⟨lo, rl, h1.law hA, h2⟩, h.win⟩
theorem MF.rest {p : PM} (h : MF S w0 D y p r t F w) : At w (Ks r) r w := by
  obtain ⟨lo, rl, h1, h2⟩ := h.ex
  have hsplit : ({ y with lo := lo } : Ly).m p.1 (rl ++ r) = ({ y with lo := lo } : Ly).m p.1 rl ++ r := by simp [Ly.m]
  have h3 := h1.at_
  rw [hsplit] at h3
  exact (h3.sub (List.sublist_append_right _ _)).from fun q hq => ⟨q, hq, rfl⟩
theorem MF.at0 {p : PM} (h : MF S w0 D y p r t F w) : Mod D w0 w := by obtain ⟨lo, rl, h1, h2⟩ := h.ex; exact h1.at_.mod
theorem MF.src {p : PM} (h : MF S w0 D y p r t F w) : S.I t F w := by obtain ⟨lo, rl, h1, h2⟩ := h.ex; exact h1.src
end
theorem runF_len {n : Nat} {en : Nat → Int} : ∀ (k : Nat) (Q : Nat → List Thing), (runF n en k Q).1.length ≤ k
  | 0, Q => by simp [runF]
  | k + 1, Q => by
    rw [runF]
    split
    · simp
    · split
      · simp
      · split
        · split
          · simp
          · have := runF_len (n := n) (en := en) k
            simp; exact this _
        · split
          · simp
          · have := runF_len (n := n) (en := en) k
            simp; exact this _
theorem runM_len {n : Nat} {en : Nat → Int} {Q : Nat → List Thing} : (runM n en Q).1.length ≤ remQ Q n := by
  unfold runM
  split
  · simp
  · exact runF_len _ _
theorem Tell.bg0 {σ : Type} {S : Srcs σ} {en : Nat → Int} {St : σ → (Nat → Option (List Thing)) → Prop} {tot : Nat} {Fin : (Nat → Option (List Thing)) → Prop} {p : PM} {t : σ} {c : Nat} {out : List Thing} {err : Int} (h : Tell S en St tot Fin p t c out err) :
    p.1.bg = false → p.1.win = 0 ∧ p.1.ov = false := by
  intro hb
  cases h with
  | start h1 h2 h3 h4 => exact ⟨h4, h2⟩
  | mid h1 => rw [h1] at hb; cases hb
  | over h1 h2 => rw [h2] at hb; cases hb
section
variable {σ : Type} {S : Srcs σ} {w0 w : World} {D : Nat → Prop} {y : Ly} {r : List (Nat × List Value)} {t : σ} {F : Nat → Prop}
theorem MF.calm {p : PM} (h : MF S w0 D y p r t F w) {w' : World} (hM : Mod (fun _ => False) w w') : MF S w0 D y p r t F w' :=
  ⟨by obtain ⟨lo, rl, h1, h2⟩ := h.ex; exact ⟨lo, rl, h1.calm hM, h2⟩, h.win⟩
theorem MF.drop {p : PM} (h : MF S w0 D y p r t F w) {r' : List (Nat × List Value)} (hs : r'.Sublist r) : MF S w0 D y p r' t F w :=
  ⟨by obtain ⟨lo, rl, h1, h2⟩ := h.ex; exact ⟨lo, rl, h1.drop (List.Sublist.append_left hs _), h2⟩, h.win⟩
theorem MF.own {p : PM} (h : MF S w0 D y p r t F w) : ∀ q ∈ r, Blk w q.1 q.2 := h.rest.own
theorem MF.flt {p : PM} (h : MF S w0 D y p r t F w) {b : Nat} (hb : F b) : b < w.heap.size := S.lt _ _ _ _ h.src hb
theorem MF.reb' {p : PM} (h : MF S w0 D y p r t F w) {w2 : World} (hM : Mod (fun _ => False) w w2) : ∃ D', MF S w2 D' y p r t F w2 ∧ (∀ b, D' b → b < w.heap.size ∧ (b < w0.heap.size → D b)) ∧ (∀ b o, w.heap[b]? = some o → isFar o = true → ¬ F b → ¬ D' b) := by
  obtain ⟨lo, rl, h1, h2⟩ := h.ex
  have h1' := h1.calm hM
  refine ⟨fun b => F b ∨ ∃ q ∈ ({ y with lo := lo } : Ly).m p.1 (rl ++ r), q.1 = b, ⟨⟨lo, rl, ⟨h1'.at_.from fun q hq => .inr ⟨q, hq, rfl⟩, h1'.ok, h1'.src, h1'.off, fun b _ hb => .inl hb⟩, h2⟩, h.win⟩, ?_, ?_⟩
  · rintro b (hb | ⟨q, hq, rfl⟩)
    · exact ⟨S.lt _ _ _ _ h1.src hb, fun hlt => h1.dom b hlt hb⟩
    · exact ⟨At.lt h1.at_ q hq, fun hlt => h1.at_.wr q hq hlt⟩
  · rintro b o ho hf hnf (hb | ⟨q, hq, rfl⟩)
    · exact hnf hb
    · exact far_cell ho hf (h1.at_.own q hq)
theorem MF.reb {p : PM} (h : MF S w0 D y p r t F w) : ∃ D', MF S w D' y p r t F w ∧ (∀ b, D' b → b < w.heap.size ∧ (b < w0.heap.size → D b)) ∧ (∀ b o, w.heap[b]? = some o → isFar o = true → ¬ F b → ¬ D' b) := h.reb' (Mod.refl _ _)
theorem MF.back {p p' : PM} (h : MF S w0 D y p r t F w) {D' : Nat → Prop} {r' : List (Nat × List Value)} {t' : σ} {F' : Nat → Prop} {w' : World} (h' : MF S w D' y p' r' t' F' w') (hD : ∀ b, D' b → b < w0.heap.size → D b) : MF S w0 D y p' r' t' F' w' := by
  obtain ⟨lo, rl, h1, h2⟩ := h'.ex
  have hsz := h.at0.size
  refine ⟨⟨lo, rl, ⟨⟨h.at0.trans h1.at_.mod (fun _ _ h => h) fun b hb hd => hD b hd hb, h1.at_.own, h1.at_.nodup, fun q hq hlt => hD _ (h1.at_.wr q hq (Nat.lt_of_lt_of_le hlt hsz)) hlt⟩, h1.ok, h1.src, h1.off, fun b hb hf => hD b (h1.dom b (Nat.lt_of_lt_of_le hb hsz) hf) hb⟩, h2⟩, h'.win⟩
theorem next_far (hy : Of S y) {cmp : Thing → Thing → Int} (hc : CmpOk y.cv cmp) (hn : y.n ≤ 64) {p : PM} (hw0 : p.1.bg = false → p.1.win = 0 ∧ p.1.ov = false) (h : MF S w0 D y p r t F w) {K : Int → List UInt8 → List UInt8 → Bool → Int → World → Prop}
    (hK : ∀ w' F', MF S w0 D y (nextM S cmp y.n p t).2.1 r (nextM S cmp y.n p t).2.2 F' w' → (∀ b o, w.heap[b]? = some o → isFar o = true → ¬ F b → w'.heap[b]? = some o ∧ ¬ F' b) →
      K (nextM S cmp y.n p t).1.1.1 (nextM S cmp y.n p t).1.1.2.1 (nextM S cmp y.n p t).1.1.2.2 (nextM S cmp y.n p t).1.2.1 (nextM S cmp y.n p t).1.2.2 w') :
    callK Try.prog 60 [.leaf (.ptr (some (y.b, 0)))] w (.tup [.agg [.int .i64, .str, .str], .leaf .bool, .leaf (.int .i64)]) K := by
  obtain ⟨D', hr, d1, d2⟩ := h.reb
  refine next_ok hy hc hn hw0 hr fun w' F' h' => hK w' F' (h.back h' fun b hb hlt => (d1 b hb).2 hlt) fun b o ho hf hnf => ?_
  have hlt := heap_lt ho
  have hnd := d2 b o ho hf hnf
  obtain ⟨lo, rl, h1, _⟩ := h'.ex
  exact ⟨(h'.at0.block b hlt hnd).trans ho, fun hF => hnd (h1.dom b hlt hF)⟩
theorem MF.far {p : PM} (h : MF S w0 D y p r t F w) {w' : World} (hM : Mod (Ks r) w w') {b : Nat} {o : Obj} (ho : w.heap[b]? = some o) (hf : isFar o = true) : w'.heap[b]? = some o := by
  refine (hM.block b (heap_lt ho) ?_).trans ho
  rintro ⟨q, hq, rfl⟩
  exact far_cell ho hf (h.own q hq)
theorem MF.put {p : PM} (h : MF S w0 D y p r t F w) {b : Nat} {o o' : Obj} (ho : w.heap[b]? = some o) (hf : isFar o = true) (hnf : ¬ F b) (hb : S.base ≤ b) (hw : w0.heap.size ≤ b) : MF S w0 D y p r t F (w.putObj b o') := by
  obtain ⟨lo, rl, h1, h2⟩ := h.ex
  refine ⟨⟨lo, rl, h1.own (h1.at_.keep (Mod.putObj w b o') (fun x hx e => by omega) fun q hq e => ?_) h1.ok (Mod.putObj w b o') (fun x hg e => ?_) h1.off.r, h2⟩, h.win⟩
  · rw [← e] at ho; exact far_cell ho hf (h1.at_.own q hq)
  · subst e
    rcases hg with hg | hg
    · exact hnf hg
    · omega
theorem err_ok {p : PM} (h : MF S w0 D y p r t F w) {K : Int → World → Prop} (hK : K p.1.e w) : callK Try.prog 54 [.leaf (.ptr (some (y.b, 0)))] w (.one (.leaf (.int .i64))) K := by
  refine go_merge_Merge_Err_api_Record _ _ _ ?_
  unfold S_merge_Merge_Err_api_Record
  obtain ⟨lo, rl, h1, _⟩ := h.ex
  exact ifK_f rfl (dr_some (h1.at_.ld 0 (k := .int .i64) p.1.e rfl rfl hK))
theorem next_ov {cmp : Thing → Thing → Int} {n : Nat} {p : PM} (h : (nextM S cmp n p t).1.2.1 = true) : (nextM S cmp n p t).2.1.1.ov = false := by
  unfold nextM at h ⊢
  split at h
  · cases h
  rename_i hov
  have hov : p.1.ov = false := by simpa using hov
  rw [if_neg (by rw [hov]; decide)]
  split at h
  · cases h
  rename_i hq
  rw [if_neg hq]
  split at h
  · cases h
  rename_i hc
  rw [if_neg hc]
  have hq : (qM S cmp n p t).1 = 0 := by simpa using hq
  show (qM S cmp n p t).2.1.1.ov = false
  unfold qM at hq ⊢
  split at hq
  · rename_i hb
    rw [if_pos hb]
    split at hq
    · rename_i ha; exact absurd hq ha
    · rename_i ha
      rw [if_neg ha]
      have ha : (asksM S cmp p.1 t p.1.win).1 = 0 := by simpa using ha
      obtain ⟨_, _, a3, _⟩ := asksM_keep (S := S) (t := t) (cmp := cmp) (s := p.1) (i := p.1.win)
      exact (playsM_keep.2.1).trans ((a3 ha).1.trans hov)
  · rename_i hb
    rw [if_neg hb]
    obtain ⟨_, k2, _, _⟩ := beginM_keep (S := S) (t := t) (cmp := cmp) (n := n) (s := p.1)
    exact (k2 hq).1.trans hov
theorem MF.base {p : PM} (h : MF S w0 D y p r t F w) : S.base ≤ w.heap.size := by
  obtain ⟨lo, rl, h1, _⟩ := h.ex
  have hlt := At.lt h1.at_ _ (by simp [Ly.m] : (y.b, ({ y with lo := lo } : Ly).st p.1) ∈ ({ y with lo := lo } : Ly).m p.1 (rl ++ r))
  have : ¬ y.b < S.base := fun hb => h1.off.b (.inr hb)
  simp at hlt
  omega
end
section
variable {σ : Type} {S : Srcs σ} {w0 : World} {D : Nat → Prop} {y : Ly} {en : Nat → Int} {St : σ → (Nat → Option (List Thing)) → Prop} {tot : Nat} {Fin : (Nat → Option (List Thing)) → Prop} {err : Int}
structure Go' (S : Srcs σ) (w0 : World) (D : Nat → Prop) (y : Ly) (en : Nat → Int) (St : σ → (Nat → Option (List Thing)) → Prop) (tot : Nat) (Fin : (Nat → Option (List Thing)) → Prop) (err : Int) (X : List (Nat × Obj)) (p : PM) (ro : List (Nat × List Value)) (t : σ) (F : Nat → Prop) (c : Nat) (rest : List Thing) (w : World) : Prop where
  mf : MF S w0 D y p ro t F w
  tell : Tell S en St tot Fin p t c rest err
  far : ∀ q ∈ X, w.heap[q.1]? = some q.2 ∧ ¬ F q.1
theorem all_ok (hS : Lists S en St) (hof : Of S y) (hcv : CmpOk y.cv cmpT) (hn : y.n ≤ 64) {X : List (Nat × Obj)} (hX : ∀ q ∈ X, isFar q.2 = true) {G : List (Nat × List Value) → Nat → List Thing → Prop} {bm : Nat}
    (hbm : ∀ ro c rest, G ro c rest → (bm, [(LV.ptr (some (y.b, 0))).toV]) ∈ ro) {yv : Value} {Kend : World → Prop}
    (hyield : ∀ p t F ro c x rest w' (K : Bool → World → Prop), Go' S w0 D y en St tot Fin err X p ro t F (c + 1) rest w' → p.1.ov = false → G ro c (x :: rest) →
      (∀ ro' w'', Go' S w0 D y en St tot Fin err X p ro' t F (c + 1) rest w'' → G ro' (c + 1) rest → K true w'') →
      (∀ w'', Kend w'' → K false w'') →
      callV Try.prog yv [.agg [.int .i64 x.1, .str x.2.1, .str x.2.2]] w' (.one (.leaf .bool)) K)
    (hend : ∀ p t F ro c w', Go' S w0 D y en St tot Fin err X p ro t F c [] w' → p.1.ov = true → G ro c [] → Kend w')
    {p : PM} {ro : List (Nat × List Value)} {t : σ} {F : Nat → Prop} {c : Nat} {rest : List Thing} {w : World} (h : Go' S w0 D y en St tot Fin err X p ro t F c rest w) (hG : G ro c rest) :
    callK Try.prog 59 [.leaf (.val yv), .leaf (.ptr (some (bm, 0)))] w (.tup []) Kend := by
  refine go_merge_Merge_All_1_api_Record _ _ _ _ _ ?_
  unfold S_merge_Merge_All_1_api_Record
  refine loop0G (γ := PM × σ × (Nat → Prop) × List (Nat × List Value) × Nat × List Thing) (fun g w' => Go' S w0 D y en St tot Fin err X g.1 g.2.2.2.1 g.2.1 g.2.2.1 g.2.2.2.2.1 g.2.2.2.2.2 w' ∧ G g.2.2.2.1 g.2.2.2.2.1 g.2.2.2.2.2)
    (fun g => g.2.2.2.2.2.length) (p, t, F, ro, c, rest) ⟨h, hG⟩ ?_
  clear h hG
  rintro ⟨p, t, F, ro, c, rest⟩ w5 KK ⟨h, hG⟩ hKK
  simp only at h hG hKK
  have hbmw := h.mf.own _ (hbm _ _ _ hG)
  refine ld_cell (k := .ptr) (some (y.b, 0)) ((hbmw.cell 0).trans rfl) ?_
  refine next_far hof hcv hn h.tell.bg0 h.mf fun w11 F11 h11 hfar => ?_
  have hSn : S.n = y.n := hof.n
  obtain ⟨n1, n2⟩ := next_tell hS h.tell
  rw [hSn] at n1 n2
  have hX11 : ∀ q ∈ X, w11.heap[q.1]? = some q.2 ∧ ¬ F11 q.1 := fun q hq => hfar q.1 q.2 (h.far q hq).1 (hX q hq) (h.far q hq).2
  refine h11.rest.alK fun b12 w13 _ h13 _ => ?_
  have h13' : At w11 (Ks ro) ((b12, zT) :: ro) w13 := h13.perm (List.perm_append_comm (l₁ := [_]))
  refine h13'.st 0 rfl (Nat.le_refl 3) fun w14 hA14 _ => ?_
  have hA14 : At w11 (Ks ro) ((b12, recC (nextM S cmpT y.n p t).1.1) :: ro) w14 := hA14
  have hX14 : ∀ q ∈ X, w14.heap[q.1]? = some q.2 ∧ ¬ F11 q.1 := fun q hq => ⟨h11.far hA14.mod (hX11 q hq).1 (hX q hq), (hX11 q hq).2⟩
  have hm14 := h11.law (hA14.sub (List.sublist_cons_self _ _))
  cases hrest : rest with
  | nil =>
    obtain ⟨r1, r2, r3⟩ := n2 hrest
    rw [hrest] at hG
    have hend' : Kend w14 := hend _ _ _ _ _ w14 ⟨hm14, r2, hX14⟩ r3 hG
    rw [r1]
    refine join1 (a := .bool) (fun b w' => b = true ∧ w' = w14) (fun k hk => ifK_t rfl (hk _ _ ⟨rfl, rfl⟩)) ?_
    rintro _ w' ⟨rfl, hw'⟩
    rw [hw']; exact ifK_t rfl hend'
  | cons x rest' =>
    obtain ⟨r1, r2, r3⟩ := n1 x rest' hrest
    have hov := next_ov (S := S) (cmp := cmpT) (n := y.n) (p := p) (t := t) (by rw [r1])
    rw [hrest] at hG hKK
    rw [r1] at hA14 ⊢
    refine join1 (a := .bool) (fun b w' => (b = false ∧ ∃ ro', Go' S w0 D y en St tot Fin err X (nextM S cmpT y.n p t).2.1 ro' (nextM S cmpT y.n p t).2.2 F11 (c + 1) rest' w' ∧ G ro' (c + 1) rest') ∨ (b = true ∧ Kend w')) (fun k hk => ?_) ?_
    · refine ifK_f rfl (hA14.ld 0 (k := .int .i64) x.1 rfl rfl (hA14.ld 0 (k := .str) x.2.1 rfl rfl (hA14.ld 0 (k := .str) x.2.2 rfl rfl ?_)))
      refine hyield _ _ _ _ c x rest' w14 _ ⟨hm14, r2, hX14⟩ hov hG (fun ro' w'' h1 h2 => hk _ _ (.inl ⟨rfl, ro', h1, h2⟩)) fun w'' h1 => hk _ _ (.inr ⟨rfl, h1⟩)
    · rintro b w' (⟨rfl, ro', h1, h2⟩ | ⟨rfl, h1⟩)
      · exact ifK_f rfl (hKK (_, _, _, ro', c + 1, rest') w' ⟨h1, h2⟩ (by simp))
      · exact ifK_t rfl h1
theorem range_all (hS : Lists S en St) (hof : Of S y) (hcv : CmpOk y.cv cmpT) (hn : y.n ≤ 64) {X0 : List (Nat × Obj)} (hX0 : ∀ q ∈ X0, isFar q.2 = true) {G : List (Nat × List Value) → Nat → List Thing → Prop} {Stop : Nat → List (Nat × List Value) → Nat → List Thing → Prop} {bm : Nat}
    (hbm : ∀ ro c rest, G ro c rest → (bm, [(LV.ptr (some (y.b, 0))).toV]) ∈ ro)
    {p : PM} {ro : List (Nat × List Value)} {t : σ} {F : Nat → Prop} {c : Nat} {rest : List Thing} {w : World} (h : Go' S w0 D y en St tot Fin err X0 p ro t F c rest w) (hG : G ro c rest)
    {B : Nat → Int → List UInt8 → List UInt8 → World → (World → (World → Prop) → Prop) → (World → Prop) → (Nat → World → Prop) → Prop} {An : Nat → World → Prop} {As : List (Nat → World → Prop)}
    (hB : ∀ (l : Nat) p t F ro c x rest w' (beg : World → (World → Prop) → Prop) (next : World → Prop) (leave : Nat → World → Prop) (Xr Xb : World → Prop), MF S w0 D y p ro t F w' → p.1.ov = false → Tell S en St tot Fin p t (c + 1) rest err → G ro c (x :: rest) →
      Xr w' → (∀ u u' ro', MF S w0 D y p ro' t F u → Mod (Ks ro') u u' → Xr u → Xr u') →
      (∀ ro' u (K' : World → Prop), MF S w0 D y p ro' t F u → Xr u → (∀ u', MF S w0 D y p ro' t F u' → Xb u' → K' u') → beg u K') →
      (∀ u u' ro', MF S w0 D y p ro' t F u → Mod (Ks ro') u u' → Xb u → Xb u') →
      (∀ ro' u, MF S w0 D y p ro' t F u → Xb u → G ro' (c + 1) rest → next u) →
      (∀ j ro' u, MF S w0 D y p ro' t F u → Xb u → Stop j ro' (c + 1) rest → leave j u) → B l x.1 x.2.1 x.2.2 w' beg next leave)
    (hAn : ∀ p t F ro c u, Go' S w0 D y en St tot Fin err ((w.heap.size, Mk) :: X0) p ro t F c [] u → p.1.ov = true → G ro c [] → An w.heap.size u)
    (hAs : ∀ j p t F ro c rest u, Go' S w0 D y en St tot Fin err ((w.heap.size, Mk) :: X0) p ro t F c rest u → p.1.ov = false → Stop j ro c rest → ∃ A, As[j]? = some A ∧ A w.heap.size u) :
    rangeK Try.prog [.agg [.int .i64, .str, .str]] (.func (.func 59) #[] #[(LV.toV (.ptr (some (bm, 0))))]) none w B An As := by
  refine ⟨fun l0 h => (by cases h), fun R w1 l hR hw1 hl HY => ?_⟩
  have hw1 : w1 = w.alloc Mk := hw1
  refine callF_func (CS_ok 59 rfl) [.leaf (.val (.func (.yield l) #[] #[])), .leaf (.ptr (some (bm, 0)))] (by rfl) ?_
  have M1 : Mod (fun _ => False) w w1 := hw1 ▸ Mod.alloc _ _ _
  have M2 : Mod (fun _ => False) w1 (w1.alloc (R .ready)) := Mod.alloc _ _ _
  have hfR : ∀ s, isFar (R s) = true := fun s => isFar_loop (hR s)
  have hr1 : w1.heap[w.heap.size]? = some Mk := by rw [hw1]; exact World.alloc_heap_new _ _
  have hrlt := heap_lt hr1
  have hrl : w.heap.size ≠ l := by omega
  have hwl : w.heap.size ≤ l := by omega
  have hr2 : (w1.alloc (R .ready)).heap[w.heap.size]? = some Mk := (M2.block _ hrlt id).trans hr1
  have hl2 : (w1.alloc (R .ready)).heap[l]? = some (R .ready) := by rw [hl]; exact World.alloc_heap_new _ _
  have hm2 := (h.mf.calm M1).calm M2
  have hbase : S.base ≤ l := Nat.le_trans h.mf.base hwl
  have hw0l : w0.heap.size ≤ l := Nat.le_trans h.mf.at0.size hwl
  have hX2 : ∀ q ∈ (l, R .ready) :: (w.heap.size, Mk) :: X0, (w1.alloc (R .ready)).heap[q.1]? = some q.2 ∧ ¬ F q.1 := by
    intro q hq
    rcases List.mem_cons.1 hq with rfl | hq
    · exact ⟨hl2, fun hf => by have := h.mf.flt hf; simp only at this; omega⟩
    rcases List.mem_cons.1 hq with rfl | hq
    · exact ⟨hr2, fun hf => Nat.lt_irrefl _ (h.mf.flt hf)⟩
    · obtain ⟨a1, a2⟩ := h.far q hq
      have hlt := heap_lt a1
      exact ⟨(M2.block _ (Nat.lt_of_lt_of_le hlt M1.size) id).trans ((M1.block _ hlt id).trans a1), a2⟩
  have hXl : ∀ q ∈ X0, q.1 ≠ l := fun q hq e => by have := heap_lt (h.far q hq).1; omega
  -- the objects but the round's own, when that has turned
  have hput : ∀ {u : World} {F : Nat → Prop} {s : LSt}, (∀ q ∈ (w.heap.size, Mk) :: X0, u.heap[q.1]? = some q.2 ∧ ¬ F q.1) → ∀ q ∈ (w.heap.size, Mk) :: X0, (u.putObj l (R s)).heap[q.1]? = some q.2 ∧ ¬ F q.1 := by
    intro u F s hu q hq
    refine ⟨?_, (hu q hq).2⟩
    rw [World.putObj_heap_other]
    · exact (hu q hq).1
    · rcases List.mem_cons.1 hq with rfl | hq
      · exact fun e => hrl e
      · exact hXl q hq
  refine all_ok (X := (l, R .ready) :: (w.heap.size, Mk) :: X0) (G := G) hS hof hcv hn ?_ hbm ?_ ?_ ⟨hm2, h.tell, hX2⟩ hG
  · intro q hq
    rcases List.mem_cons.1 hq with rfl | hq
    · exact hfR _
    rcases List.mem_cons.1 hq with rfl | hq
    · rfl
    · exact hX0 q hq
  · intro p t F ro c x rest w' K hgo hov hG hcont hstop
    have hrec := (hgo.far (l, R .ready) (by simp)).1
    have hnl := (hgo.far (l, R .ready) (by simp)).2
    have hX' : ∀ q ∈ (w.heap.size, Mk) :: X0, w'.heap[q.1]? = some q.2 ∧ ¬ F q.1 := fun q hq => hgo.far q (List.mem_cons_of_mem _ hq)
    refine HY [.int .i64 x.1, .str x.2.1, .str x.2.2] w' K hrec ?_
    refine hB l p t F ro c x rest w' _ _ _ (fun u => u.heap[l]? = some (R .ready) ∧ ∀ q ∈ (w.heap.size, Mk) :: X0, u.heap[q.1]? = some q.2) (fun u => u.heap[l]? = some (R .busy) ∧ ∀ q ∈ (w.heap.size, Mk) :: X0, u.heap[q.1]? = some q.2) hgo.mf hov hgo.tell hG ⟨hrec, fun q hq => (hX' q hq).1⟩ ?_ ?_ ?_ ?_ ?_
    · rintro u u' ro' hm hM ⟨x1, x2⟩
      refine ⟨hm.far hM x1 (hfR _), fun q hq => hm.far hM (x2 q hq) ?_⟩
      rcases List.mem_cons.1 hq with rfl | hq
      · rfl
      · exact hX0 q hq
    · rintro ro' u K' hm ⟨x1, x2⟩ hK'
      have hx2 : ∀ q ∈ (w.heap.size, Mk) :: X0, u.heap[q.1]? = some q.2 ∧ ¬ F q.1 := fun q hq => ⟨x2 q hq, (hX' q hq).2⟩
      exact ⟨x1, hK' _ (hm.put x1 (hfR _) hnl hbase hw0l) ⟨World.putObj_heap_same (heap_lt x1), fun q hq => (hput hx2 q hq).1⟩⟩
    · rintro u u' ro' hm hM ⟨x1, x2⟩
      refine ⟨hm.far hM x1 (hfR _), fun q hq => hm.far hM (x2 q hq) ?_⟩
      rcases List.mem_cons.1 hq with rfl | hq
      · rfl
      · exact hX0 q hq
    · rintro ro' u hm ⟨x1, x2⟩ hG'
      have hx2 : ∀ q ∈ (w.heap.size, Mk) :: X0, u.heap[q.1]? = some q.2 ∧ ¬ F q.1 := fun q hq => ⟨x2 q hq, (hX' q hq).2⟩
      refine ⟨x1, hcont ro' _ ⟨hm.put x1 (hfR _) hnl hbase hw0l, hgo.tell, fun q hq => ?_⟩ hG'⟩
      rcases List.mem_cons.1 hq with rfl | hq
      · exact ⟨World.putObj_heap_same (heap_lt x1), hnl⟩
      · exact hput hx2 q hq
    · rintro j ro' u hm ⟨x1, x2⟩ hS'
      have hx2 : ∀ q ∈ (w.heap.size, Mk) :: X0, u.heap[q.1]? = some q.2 ∧ ¬ F q.1 := fun q hq => ⟨x2 q hq, (hX' q hq).2⟩
      have hd : (u.putObj l (R (.done j))).heap[l]? = some (R (.done j)) := World.putObj_heap_same (heap_lt x1)
      obtain ⟨A, a1, a2⟩ := hAs j p t F ro' (c + 1) rest ((u.putObj l (R (.done j))).putObj l (R (.over (some j)))) ⟨(hm.put x1 (hfR _) hnl hbase hw0l).put hd (hfR _) hnl hbase hw0l, hgo.tell, hput (hput hx2)⟩ hov hS'
      exact ⟨x1, hstop _ (.inr ⟨j, A, a1, hd, a2⟩)⟩
  · intro p t F ro c w' hgo hov hG
    have hrec := (hgo.far (l, R .ready) (by simp)).1
    have hnl := (hgo.far (l, R .ready) (by simp)).2
    have hX' : ∀ q ∈ (w.heap.size, Mk) :: X0, w'.heap[q.1]? = some q.2 ∧ ¬ F q.1 := fun q hq => hgo.far q (List.mem_cons_of_mem _ hq)
    exact .inl ⟨hrec, hAn p t F ro c _ ⟨hgo.mf.put hrec (hfR _) hnl hbase hw0l, hgo.tell, hput hX'⟩ hov hG⟩
section
variable {w : World} {X : List (Nat × Obj)} {p : PM} {ro : List (Nat × List Value)} {t : σ} {F : Nat → Prop} {c : Nat} {rest : List Thing}
theorem Go'.law (h : Go' S w0 D y en St tot Fin err X p ro t F c rest w) (hX : ∀ q ∈ X, isFar q.2 = true) {ro' : List (Nat × List Value)} {w' : World} (hA : At w (Ks ro) ro' w') : Go' S w0 D y en St tot Fin err X p ro' t F c rest w' :=
  ⟨h.mf.law hA, h.tell, fun q hq => ⟨h.mf.far hA.mod (h.far q hq).1 (hX q hq), (h.far q hq).2⟩⟩
theorem Go'.calm (h : Go' S w0 D y en St tot Fin err X p ro t F c rest w) {w' : World} (hM : Mod (fun _ => False) w w') : Go' S w0 D y en St tot Fin err X p ro t F c rest w' :=
  ⟨h.mf.calm hM, h.tell, fun q hq => ⟨(hM.block _ (heap_lt (h.far q hq).1) id).trans (h.far q hq).1, (h.far q hq).2⟩⟩
theorem Go'.drop (h : Go' S w0 D y en St tot Fin err X p ro t F c rest w) {ro' : List (Nat × List Value)} (hs : ro'.Sublist ro) : Go' S w0 D y en St tot Fin err X p ro' t F c rest w := ⟨h.mf.drop hs, h.tell, h.far⟩
end
end
end Go.Proofs.Ytfhojgammfkabaa.Rc
