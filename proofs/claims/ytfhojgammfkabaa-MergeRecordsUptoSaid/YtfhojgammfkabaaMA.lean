/- M0, M1, M2, M3, M4, M6 in one text. -/
import Derived.Test.YtfhojgammfkabaaLA
import Derived.Test.YtfhojgammfkabaaSMerge
/- A merge of things: how it lies, what it does, told plainly; the first of its functions. -/
namespace Go.Proofs.Ytfhojgammfkabaa
open Go.Vw

abbrev Thing := Int × Int
def ET : Enc Thing := ⟨2, fun x => [.int .i64 x.1, .int .i64 x.2], fun _ => rfl, by decide, fun x v h => by simp at h; rcases h with rfl | rfl <;> rfl⟩
def EI : Enc Int := ⟨1, fun x => [.int .i64 x], fun _ => rfl, by decide, fun x v h => by simp at h; subst h; rfl⟩
def EB : Enc Bool := ⟨1, fun x => [.bool x], fun _ => rfl, by decide, fun x v h => by simp at h; subst h; rfl⟩
def EF : Enc Value := ⟨1, fun v => [if isCell v then v else .nilFunc], fun _ => rfl, by decide, fun x v h => by simp at h; subst h; split <;> first | assumption | rfl⟩
/-- where a merge lies: its blocks, what does not turn while it is asked -/
structure Ly where
  b : Nat
  bf : Nat
  bh : Nat
  bs : Nat
  cv : Value
  fr : Sl
  cf : List Value
  n : Nat
  lo : Sl
/-- what turns -/
structure MS where
  hd : List Thing
  sm : List Bool
  win : Nat
  bg : Bool
  ov : Bool
  e : Int
def Ly.st (y : Ly) (s : MS) : List Value := [y.cv, (LV.sl y.fr).toV, (LV.sl ⟨some (y.bh, 0), y.n, y.n⟩).toV, (LV.sl ⟨some (y.bs, 0), y.n, y.n⟩).toV, (LV.sl y.lo).toV, .int .i64 s.win, .bool s.bg, .bool s.ov, .int .i64 s.e]
def Ly.m (y : Ly) (s : MS) (r : List (Nat × List Value)) : List (Nat × List Value) := (y.b, y.st s) :: (y.bf, y.cf) :: (y.bh, ET.cells s.hd) :: (y.bs, EB.cells s.sm) :: r
/-- a compare that only looks -/
def CmpOk (cv : Value) (cmp : Thing → Thing → Int) : Prop := ∀ (x y : Thing) (w : World) (K : Int → World → Prop), (∀ w', Mod (fun _ => False) w w' → K (cmp x y) w') →
  callV Try.prog cv [.agg [.int .i64 x.1, .int .i64 x.2], .agg [.int .i64 y.1, .int .i64 y.2]] w (.one (.leaf (.int .i64))) K
structure Ok (y : Ly) (s : MS) : Prop where
  hd : s.hd.length = y.n
  sm : s.sm.length = y.n
def getB (l : List Bool) (i : Nat) : Bool := l[i]?.getD false
def getT (l : List Thing) (i : Nat) : Thing := l[i]?.getD (0, 0)
/-- does what one source has come ahead of what the other has? -/
def aheadM (cmp : Thing → Thing → Int) (s : MS) (i j : Nat) : Bool :=
  if !getB s.sm i || !getB s.sm j then getB s.sm i
  else let c := cmp (getT s.hd i) (getT s.hd j); decide (c < 0) || (c == 0 && decide (i < j))
section
variable {w0 w : World} {D : Nat → Prop} {y : Ly} {s : MS} {r : List (Nat × List Value)}
theorem getB_at {l : List Bool} {i : Nat} (h : i < l.length) : l[i]? = some (getB l i) := by simp [getB, h]
theorem getT_at {l : List Thing} {i : Nat} (h : i < l.length) : l[i]? = some (getT l i) := by simp [getT, h]
theorem at_some (hA : At w0 D (y.m s r) w) (ho : Ok y s) {i : Nat} (hi : i < y.n) : w.cell? ⟨y.bs, 0 + (i : Int).toNat * 1, none⟩ = some (LV.mk .bool (getB s.sm i)).toV := by
  rw [(hA.blk (i := 3) rfl).cell, Nat.zero_add]
  have := EB.cells_get s.sm i 0 (by decide)
  rw [Nat.add_zero] at this
  refine this.trans ?_
  rw [getB_at (by rw [ho.sm]; exact hi)]; rfl
theorem at_head0 (hA : At w0 D (y.m s r) w) (ho : Ok y s) {i : Nat} (hi : i < y.n) : w.cell? ⟨y.bh, 0 + (i : Int).toNat * 2, none⟩ = some (LV.mk (.int .i64) (getT s.hd i).1).toV := by
  rw [(hA.blk (i := 2) rfl).cell, Nat.zero_add]
  have := ET.cells_get s.hd i 0 (by decide)
  rw [Nat.add_zero] at this
  refine this.trans ?_
  rw [getT_at (by rw [ho.hd]; exact hi)]; rfl
theorem at_head1 (hA : At w0 D (y.m s r) w) (ho : Ok y s) {i : Nat} (hi : i < y.n) : w.cell? ⟨y.bh, 0 + (i : Int).toNat * 2 + 1, none⟩ = some (LV.mk (.int .i64) (getT s.hd i).2).toV := by
  rw [(hA.blk (i := 2) rfl).cell, Nat.zero_add]
  refine (ET.cells_get s.hd i 1 (by decide)).trans ?_
  rw [getT_at (by rw [ho.hd]; exact hi)]; rfl
theorem ahead_ok (hA : At w0 D (y.m s r) w) (ho : Ok y s) {cmp : Thing → Thing → Int} (hc : CmpOk y.cv cmp) {i j : Nat} (hi : i < y.n) (hj : j < y.n) {K : Bool → World → Prop}
    (hK : ∀ w', At w0 D (y.m s r) w' → Mod (fun _ => False) w w' → K (aheadM cmp s i j) w') :
    callK Try.prog 56 [.leaf (.ptr (some (y.b, 0))), .leaf (.int .i64 i), .leaf (.int .i64 j)] w (.one (.leaf .bool)) K := by
  refine go_merge_Merge_ahead_winnowref11_Thing _ _ _ _ _ ?_
  have hin : ∀ k : Nat, k < y.n → (0 : Int) ≤ k ∧ (k : Int) < (y.n : Nat) := fun k hk => ⟨by omega, by omega⟩
  unfold S_merge_Merge_ahead_winnowref11_Thing
  refine join1 (a := .bool) (fun t w' => w' = w ∧ t = (!getB s.sm i || !getB s.sm j)) (fun k hk => ?_) ?_
  · refine dr_some (hA.ld 0 _ rfl rfl ?_)
    refine ix_some rfl (hin i hi).1 (hin i hi).2 (ld_cell _ (at_some hA ho hi) ?_)
    refine ifK_intro (fun h => hk _ _ ⟨rfl, ?_⟩) (fun h => ?_)
    · rw [h]; rfl
    · refine dr_some (hA.ld 0 _ rfl rfl ?_)
      refine ix_some rfl (hin j hj).1 (hin j hj).2 (ld_cell _ (at_some hA ho hj) (hk _ _ ⟨rfl, ?_⟩))
      rw [h]; rfl
  · rintro t w' ⟨rfl, ht⟩
    refine ifK_intro (fun h => ?_) (fun h => ?_)
    · refine dr_some (hA.ld 0 _ rfl rfl ?_)
      refine ix_some rfl (hin i hi).1 (hin i hi).2 (ld_cell _ (at_some hA ho hi) ?_)
      have := hK _ hA (Mod.refl _ _)
      unfold aheadM at this
      rw [if_pos (ht ▸ h)] at this
      exact this
    · have hA1 := hA.drew
      refine ⟨fun _ => False, ?_⟩
      refine dr_some (hA1.ldD 0 _ rfl rfl id ?_)
      refine dr_some (hA1.ldD 0 _ rfl rfl id ?_)
      refine ix_some rfl (hin i hi).1 (hin i hi).2 (ldD_cell _ id (at_head0 hA1 ho hi) (ldD_cell _ id (at_head1 hA1 ho hi) ?_))
      refine dr_some (hA1.ldD 0 _ rfl rfl id ?_)
      refine ix_some rfl (hin j hj).1 (hin j hj).2 (ldD_cell _ id (at_head0 hA1 ho hj) (ldD_cell _ id (at_head1 hA1 ho hj) ?_))
      refine hc (getT s.hd i) (getT s.hd j) _ _ fun w2 hM => ⟨hM, ?_⟩
      have hA2 := hA1.keep0 hM fun _ => id
      have h2 := hK _ hA2 ((Mod.drew _ _).trans hM (fun _ _ h => h) (fun _ _ h => h))
      unfold aheadM at h2
      rw [if_neg (by rw [← ht, h]; decide)] at h2
      refine join1 (a := .bool) (fun t w' => w' = w2 ∧ t = (decide (cmp (getT s.hd i) (getT s.hd j) < 0) || (cmp (getT s.hd i) (getT s.hd j) == 0 && decide (i < j)))) (fun k hk => ?_) ?_
      · refine ifK_intro (fun h => hk _ _ ⟨rfl, by rw [h]; rfl⟩) fun h => ifK_intro (fun h' => hk _ _ ⟨rfl, ?_⟩) fun h' => hk _ _ ⟨rfl, by rw [h, h']; rfl⟩
        rw [h, h']; simp
      · rintro t' w' ⟨rfl, rfl⟩; exact h2
end
end Go.Proofs.Ytfhojgammfkabaa

/- A merge of things: its sources; ends, asks. -/
namespace Go.Proofs.Ytfhojgammfkabaa
open Go.Vw

/-- what sources are: a state of them all, where it lies, what one answers when it is asked -/
structure Srcs (σ : Type) where
  n : Nat
  v : Nat → Value
  ask : σ → Nat → (Thing × Bool × Int) × σ
  I : σ → (Nat → Prop) → World → Prop
  base : Nat
  keep : ∀ s F w w' D, I s F w → Mod D w w' → (∀ b, F b → ¬ D b) → (∀ b, b < base → ¬ D b) → I s F w'
  lt : ∀ s F w b, I s F w → F b → b < w.heap.size
  call : ∀ s F w i (K : Int → Int → Bool → Int → World → Prop), i < n → I s F w → (∀ w' F', I (ask s i).2 F' w' → Mod F w w' → (∀ b, F' b → F b ∨ w.heap.size ≤ b) → K (ask s i).1.1.1 (ask s i).1.1.2 (ask s i).1.2.1 (ask s i).1.2.2 w') →
    callV Try.prog (v i) [] w (.tup [.agg [.int .i64, .int .i64], .leaf .bool, .leaf (.int .i64)]) K
/-- what lies below 'base' is never written -/
def Srcs.G {σ : Type} (S : Srcs σ) (F : Nat → Prop) : Nat → Prop := fun b => F b ∨ b < S.base
theorem Srcs.keepG {σ : Type} (S : Srcs σ) {s : σ} {F D : Nat → Prop} {w w' : World} (h : S.I s F w) (hM : Mod D w w') (hd : ∀ b, S.G F b → ¬ D b) : S.I s F w' :=
  S.keep s F w w' D h hM (fun b hb => hd b (.inl hb)) fun b hb => hd b (.inr hb)
/-- the sources of this merge are these -/
structure Of {σ : Type} (S : Srcs σ) (y : Ly) : Prop where
  n : S.n = y.n
  p : y.fr.p = some (y.bf, 0)
  len : y.fr.len = y.n
  cap : y.n ≤ y.fr.cap
  v : ∀ i, i < y.n → y.cf[i]? = some (S.v i)
/-- none of these blocks -/
structure Off (F : Nat → Prop) (y : Ly) (r : List (Nat × List Value)) : Prop where
  b : ¬ F y.b
  bf : ¬ F y.bf
  bh : ¬ F y.bh
  bs : ¬ F y.bs
  r : ∀ p ∈ r, ¬ F p.1
theorem Off.all {F : Nat → Prop} {y : Ly} {r : List (Nat × List Value)} (h : Off F y r) (s : MS) : ∀ p ∈ y.m s r, ¬ F p.1 := by
  intro p hp
  simp only [Ly.m, List.mem_cons] at hp
  rcases hp with rfl | rfl | rfl | rfl | hp
  · exact h.b
  · exact h.bf
  · exact h.bh
  · exact h.bs
  · exact h.r p hp
theorem Off.of {F : Nat → Prop} {y : Ly} {r : List (Nat × List Value)} {s : MS} (h : ∀ p ∈ y.m s r, ¬ F p.1) : Off F y r :=
  ⟨h _ (by simp [Ly.m]; exact .inl rfl), h (y.bf, y.cf) (by simp [Ly.m]), h (y.bh, ET.cells s.hd) (by simp [Ly.m]), h (y.bs, EB.cells s.sm) (by simp [Ly.m]), fun p hp => h p (by simp [Ly.m, hp])⟩
section
variable {σ : Type} {S : Srcs σ} {w0 w : World} {D : Nat → Prop} {y : Ly} {s : MS} {r : List (Nat × List Value)} {t : σ} {F : Nat → Prop}
/-- all that is known while a merge works -/
structure MI (S : Srcs σ) (w0 : World) (D : Nat → Prop) (y : Ly) (s : MS) (r : List (Nat × List Value)) (t : σ) (F : Nat → Prop) (w : World) : Prop where
  at_ : At w0 D (y.m s r) w
  ok : Ok y s
  src : S.I t F w
  off : Off (S.G F) y r
  dom : ∀ b, b < w0.heap.size → F b → D b
theorem At.lt {m : List (Nat × List Value)} (hA : At w0 D m w) : ∀ p ∈ m, p.1 < w.heap.size := fun p hp => (hA.own p hp).lt
/-- the sources have worked -/
theorem MI.srcs (h : MI S w0 D y s r t F w) {t' : σ} {F' : Nat → Prop} {w' : World} (hI : S.I t' F' w') (hM : Mod F w w') (hF : ∀ b, F' b → F b ∨ w.heap.size ≤ b) : MI S w0 D y s r t' F' w' := by
  refine ⟨h.at_.keep hM h.dom (fun p hp hf => h.off.all s p hp (.inl hf)), h.ok, hI, Off.of (s := s) fun p hp hf => ?_, fun b hb hf => ?_⟩
  · rcases hf with hf | hf
    · rcases hF _ hf with hf | hf
      · exact h.off.all s p hp (.inl hf)
      · exact Nat.lt_irrefl _ (Nat.lt_of_lt_of_le (At.lt h.at_ p hp) hf)
    · exact h.off.all s p hp (.inr hf)
  · rcases hF _ hf with hf | hf
    · exact h.dom b hb hf
    · exact absurd hb (Nat.not_lt.2 (Nat.le_trans h.at_.mod.size hf))
/-- known blocks have turned, or something that touches nothing has been done -/
theorem MI.own (h : MI S w0 D y s r t F w) {s' : MS} {r' : List (Nat × List Value)} {w' : World} (hA : At w0 D (y.m s' r') w') (hok : Ok y s') {E : Nat → Prop} (hM : Mod E w w') (hE : ∀ b, S.G F b → ¬ E b) (hr : ∀ p ∈ r', ¬ S.G F p.1) : MI S w0 D y s' r' t F w' :=
  ⟨hA, hok, S.keepG h.src hM hE, ⟨h.off.b, h.off.bf, h.off.bh, h.off.bs, hr⟩, h.dom⟩
theorem MI.calm (h : MI S w0 D y s r t F w) {w' : World} (hM : Mod (fun _ => False) w w') : MI S w0 D y s r t F w' := h.own (h.at_.keep0 hM fun _ => id) h.ok hM (fun _ _ => id) h.off.r
theorem MI.drew (h : MI S w0 D y s r t F w) : MI S w0 D y s r t F w.drew := h.calm (Mod.drew _ _)
/-- a new block -/
theorem MI.al (h : MI S w0 D y s r t F w) {e : TypeId} {cs : List LV} {K : Nat → World → Prop}
    (hK : ∀ b w', MI S w0 D y s ((b, cs.map LV.toV) :: r) t F w' → Mod (fun _ => False) w w' → w.heap.size ≤ b → K b w') : Go.Vw.al w e cs K := by
  have hA := h.at_.al (cs.map LV.toV) e
  have hp : (y.m s ((w.heap.size, cs.map LV.toV) :: r)).Perm (y.m s r ++ [(w.heap.size, cs.map LV.toV)]) := by
    simp only [Ly.m, List.cons_append]
    refine .cons _ (.cons _ (.cons _ (.cons _ ?_)))
    exact (List.perm_append_comm (l₁ := [_]) (l₂ := r))
  refine hK _ _ (h.own ⟨hA.mod, fun p hpp => hA.own p (hp.subset hpp), (hp.map Prod.fst).nodup_iff.2 hA.nodup, fun p hpp => hA.wr p (hp.subset hpp)⟩ h.ok (Mod.alloc _ _ _) (fun _ _ => id) ?_) (Mod.alloc _ _ _) (Nat.le_refl _)
  intro p hpp hf
  rcases List.mem_cons.1 hpp with rfl | hpp
  · rcases hf with hf | hf
    · exact Nat.lt_irrefl _ (S.lt _ _ _ _ h.src hf)
    · exact h.off.b (.inr (Nat.lt_trans (At.lt h.at_ _ (by simp [Ly.m] : (y.b, y.st s) ∈ y.m s r)) hf))
  · exact h.off.r p hpp hf
theorem MI.drop (h : MI S w0 D y s r t F w) {r' : List (Nat × List Value)} (hs : r'.Sublist r) : MI S w0 D y s r' t F w :=
  ⟨h.at_.sub (.cons_cons _ (.cons_cons _ (.cons_cons _ (.cons_cons _ hs)))), h.ok, h.src, ⟨h.off.b, h.off.bf, h.off.bh, h.off.bs, fun p hp => h.off.r p (hs.subset hp)⟩, h.dom⟩
/-- a known block is written -/
theorem MI.st (h : MI S w0 D y s r t F w) (i : Nat) {b o : Nat} {c : List Value} {vs : List LV} {s' : MS} {r' : List (Nat × List Value)} {K : World → Prop} (hi : (y.m s r)[i]? = some (b, c)) (hl : o + vs.length ≤ c.length)
    (he : (y.m s r).set i (b, spl c o (vs.map LV.toV)) = y.m s' r') (hok : Ok y s') (hr : ∀ p ∈ r', ∃ q ∈ r, q.1 = p.1)
    (hK : ∀ w', MI S w0 D y s' r' t F w' → Mod (fun k => k = b) w w' → K w') : Go.Vw.st w b o vs K :=
  h.at_.st i hi hl fun w' hA hM => hK w' (h.own (he ▸ hA) hok hM (fun x hx e => by subst e; exact h.off.all s _ (List.mem_of_getElem? hi) hx) fun p hp => by
    obtain ⟨q, hq, hqp⟩ := hr p hp; rw [← hqp]; exact h.off.r q hq) hM
theorem MI.st0 (h : MI S w0 D y s r t F w) {o : Nat} {vs : List LV} (s' : MS) {K : World → Prop} (hl : o + vs.length ≤ 9) (he : spl (y.st s) o (vs.map LV.toV) = y.st s') (hh : s'.hd = s.hd) (hs : s'.sm = s.sm)
    (hK : ∀ w', MI S w0 D y s' r t F w' → Mod (fun k => k = y.b) w w' → K w') : Go.Vw.st w y.b o vs K :=
  h.st 0 (s' := s') rfl (by simpa [Ly.st] using hl) (by simp [Ly.m, he, hh, hs]) ⟨by rw [hh]; exact h.ok.hd, by rw [hs]; exact h.ok.sm⟩ (fun p hp => ⟨p, hp, rfl⟩) hK
theorem MI.st4 {b : Nat} {c : List Value} (h : MI S w0 D y s ((b, c) :: r) t F w) {o : Nat} {vs : List LV} {K : World → Prop} (hl : o + vs.length ≤ c.length)
    (hK : ∀ w', MI S w0 D y s ((b, spl c o (vs.map LV.toV)) :: r) t F w' → Mod (fun k => k = b) w w' → K w') : Go.Vw.st w b o vs K :=
  h.st 4 (s' := s) rfl hl rfl h.ok (fun p hp => by
    rcases List.mem_cons.1 hp with rfl | hp
    · exact ⟨(b, c), by simp, rfl⟩
    · exact ⟨p, by simp [hp], rfl⟩) hK
theorem MI.setHead (h : MI S w0 D y s r t F w) {i : Nat} (hi : i < y.n) (x : Thing) {K : World → Prop} (hK : ∀ w', MI S w0 D y { s with hd := s.hd.set i x } r t F w' → Mod (fun k => k = y.bh) w w' → K w') :
    Go.Vw.st w y.bh (0 + (i : Int).toNat * 2) [.int .i64 x.1, .int .i64 x.2] K := by
  have hlt : i < s.hd.length := by rw [h.ok.hd]; exact hi
  have hset := ET.cells_set s.hd i 0 [.int .i64 x.1, .int .i64 x.2] (getT s.hd i) x [] (getT_at hlt) (Nat.le_refl 2) rfl
  simp only [List.append_nil, Nat.add_zero] at hset
  refine h.st 2 (s' := { s with hd := s.hd.set i x }) rfl ?_ ?_ ⟨by simp [h.ok.hd], h.ok.sm⟩ (fun p hp => ⟨p, hp, rfl⟩) hK
  · rw [ET.cells_length]; simp [ET]; omega
  · rw [Nat.zero_add]
    show _ = y.m { s with hd := s.hd.set i x } r
    simp only [Ly.m, List.set_cons_succ, List.set_cons_zero]
    have hset' : spl (ET.cells s.hd) ((i : Int).toNat * 2) (List.map LV.toV [.int .i64 x.1, .int .i64 x.2]) = ET.cells (s.hd.set i x) := hset
    rw [hset']; rfl
theorem MI.setSome (h : MI S w0 D y s r t F w) {i : Nat} (hi : i < y.n) (x : Bool) {K : World → Prop} (hK : ∀ w', MI S w0 D y { s with sm := s.sm.set i x } r t F w' → Mod (fun k => k = y.bs) w w' → K w') :
    Go.Vw.st w y.bs (0 + (i : Int).toNat * 1) [.bool x] K := by
  have hlt : i < s.sm.length := by rw [h.ok.sm]; exact hi
  have hset := EB.cells_set s.sm i 0 [.bool x] (getB s.sm i) x [] (getB_at hlt) (Nat.le_refl 1) rfl
  simp only [List.append_nil, Nat.add_zero] at hset
  refine h.st 3 (s' := { s with sm := s.sm.set i x }) rfl ?_ ?_ ⟨h.ok.hd, by simp [h.ok.sm]⟩ (fun p hp => ⟨p, hp, rfl⟩) hK
  · rw [EB.cells_length]; simp [EB]; omega
  · rw [Nat.zero_add]
    show _ = y.m { s with sm := s.sm.set i x } r
    simp only [Ly.m, List.set_cons_succ, List.set_cons_zero]
    have hset' : spl (EB.cells s.sm) ((i : Int).toNat * 1) (List.map LV.toV [.bool x]) = EB.cells (s.sm.set i x) := hset
    rw [hset']; rfl

theorem ends_ok (h : MI S w0 D y s r t F w) (e : Int) {K : Int → World → Prop} (hK : ∀ w', MI S w0 D y { s with ov := true, e := e } r t F w' → Mod (fun k => k = y.b) w w' → K e w') :
    callK Try.prog 43 [.leaf (.ptr (some (y.b, 0))), .leaf (.int .i64 e)] w (.one (.leaf (.int .i64))) K := by
  refine go_merge_Merge_ends_winnowref11_Thing _ _ _ _ ?_
  unfold S_merge_Merge_ends_winnowref11_Thing
  refine dr_some (h.st0 { s with ov := true } (by decide) rfl rfl rfl fun w1 h1 M1 => ?_)
  refine dr_some (h1.st0 { s with ov := true, e := e } (Nat.le_refl 9) rfl rfl rfl fun w2 h2 M2 => ?_)
  exact hK _ h2 (M1.trans M2 (fun _ _ h => h) (fun _ _ h => h))

/-- a source is asked -/
def asksM (S : Srcs σ) (cmp : Thing → Thing → Int) (s : MS) (t : σ) (i : Nat) : Int × MS × σ :=
  if (S.ask t i).1.2.2 ≠ 0 then ((S.ask t i).1.2.2, { s with ov := true, e := (S.ask t i).1.2.2 }, (S.ask t i).2)
  else if (S.ask t i).1.2.1 && getB s.sm i && decide (cmp (S.ask t i).1.1 (getT s.hd i) < 0) then (61, { s with ov := true, e := 61 }, (S.ask t i).2)
  else (0, { s with hd := s.hd.set i (S.ask t i).1.1, sm := s.sm.set i (S.ask t i).1.2.1 }, (S.ask t i).2)
theorem asksM_fst_ov {cmp : Thing → Thing → Int} {i : Nat} : (asksM S cmp s t i).2.2 = (S.ask t i).2 := by unfold asksM; split <;> (try split) <;> rfl
theorem asks_ok (hy : Of S y) {cmp : Thing → Thing → Int} (hc : CmpOk y.cv cmp) (h : MI S w0 D y s r t F w) {i : Nat} (hi : i < y.n) {K : Int → World → Prop}
    (hK : ∀ w' F', MI S w0 D y (asksM S cmp s t i).2.1 r (asksM S cmp s t i).2.2 F' w' → (∀ b, F' b → F b ∨ w.heap.size ≤ b) → K (asksM S cmp s t i).1 w') :
    callK Try.prog 41 [.leaf (.ptr (some (y.b, 0))), .leaf (.int .i64 i)] w (.one (.leaf (.int .i64))) K := by
  refine go_merge_Merge_asks_winnowref11_Thing _ _ _ _ ?_
  unfold S_merge_Merge_asks_winnowref11_Thing
  have hin : (0 : Int) ≤ i ∧ (i : Int) < (y.n : Nat) := ⟨by omega, by omega⟩
  refine dr_some (h.at_.ld 0 _ rfl rfl ?_)
  refine ix_some rfl hin.1 hin.2 (ld_cell _ (at_some h.at_ h.ok hi) ?_)
  refine dr_some (h.at_.ld 0 _ rfl rfl ?_)
  refine ix_some hy.p hin.1 (by rw [hy.len]; exact hin.2) ?_ (by rw [hy.len]; exact hy.cap)
  refine h.at_.ld 1 (S.v i) rfl ?_ ?_
  · have : 0 + (i : Int).toNat * 1 = i := by simp
    rw [this]; exact hy.v i hi
  refine S.call t F w i _ (by rw [hy.n]; exact hi) h.src fun w1 F1 hI1 M1 hF1 => ?_
  have h1 := h.srcs hI1 M1 hF1
  refine h1.al fun b20 w2 h2 M2 hb20 => ?_
  refine h2.st4 (Nat.le_refl 2) fun w3 h3 M3 => ?_
  have h3 : MI S w0 D y s ((b20, [.int .i64 (S.ask t i).1.1.1, .int .i64 (S.ask t i).1.1.2]) :: r) (S.ask t i).2 F1 w3 := h3
  have fin : ∀ (k : Int) (s' : MS) (r' : List (Nat × List Value)) w', MI S w0 D y s' r' (S.ask t i).2 F1 w' → r.Sublist r' → k = (asksM S cmp s t i).1 → s' = (asksM S cmp s t i).2.1 → K k w' := by
    rintro k s' r' w' h' hs rfl rfl
    refine hK w' F1 ?_ hF1
    rw [asksM_fst_ov]; exact h'.drop hs
  refine ifK_intro (fun he => ?_) (fun he => ?_)
  · refine ends_ok h3 _ fun w4 h4 _ => fin _ _ _ _ h4 (List.sublist_cons_self _ _) ?_ ?_
    · unfold asksM; rw [if_pos (by simpa using he)]
    · unfold asksM; rw [if_pos (by simpa using he)]
  have he0 : ¬ ((S.ask t i).1.2.2 ≠ 0) := by simpa using he
  refine join1 (a := .bool) (fun b w' => MI S w0 D y s ((b20, [.int .i64 (S.ask t i).1.1.1, .int .i64 (S.ask t i).1.1.2]) :: r) (S.ask t i).2 F1 w' ∧ b = ((S.ask t i).1.2.1 && getB s.sm i && decide (cmp (S.ask t i).1.1 (getT s.hd i) < 0))) (fun k hk => ?_) ?_
  · refine ⟨fun _ => False, ?_⟩
    have h4 := h3.drew
    refine ifK_intro (fun hs1 => ifK_intro (fun hs2 => ?_) fun hs2 => hk _ _ ⟨h4, by rw [hs1, hs2]; rfl⟩) fun hs1 => hk _ _ ⟨h4, by rw [hs1]; rfl⟩
    refine dr_some (h4.at_.ldD 0 _ rfl rfl id ?_)
    refine h4.at_.ldD 4 _ rfl rfl id ?_
    refine h4.at_.ldD 4 _ rfl rfl id ?_
    refine dr_some (h4.at_.ldD 0 _ rfl rfl id ?_)
    refine ix_some rfl hin.1 hin.2 (ldD_cell _ id (at_head0 h4.at_ h4.ok hi) (ldD_cell _ id (at_head1 h4.at_ h4.ok hi) ?_))
    refine hc (S.ask t i).1.1 (getT s.hd i) _ _ fun w5 hM => ⟨hM, hk _ _ ⟨h4.calm hM, by rw [hs1, hs2]; rfl⟩⟩
  · rintro b w4 ⟨h4, rfl⟩
    refine ifK_intro (fun ho => ?_) (fun ho => ?_)
    · refine ends_ok h4 _ fun w5 h5 _ => fin _ _ _ _ h5 (List.sublist_cons_self _ _) ?_ ?_
      · unfold asksM; rw [if_neg he0, if_pos ho]
      · unfold asksM; rw [if_neg he0, if_pos ho]
    · refine ⟨fun k => k = y.bh ∨ k = y.bs, ?_⟩
      have h5 := h4.drew
      have nb : ¬ (y.b = y.bh ∨ y.b = y.bs) := fun h => h.elim (h5.at_.ne (i := 0) (j := 2) rfl rfl (by decide)) (h5.at_.ne (i := 0) (j := 3) rfl rfl (by decide))
      have nb20 : ¬ (b20 = y.bh ∨ b20 = y.bs) := fun h => h.elim (h5.at_.ne (i := 4) (j := 2) rfl rfl (by decide)) (h5.at_.ne (i := 4) (j := 3) rfl rfl (by decide))
      refine dr_some (h5.at_.ldD 0 _ rfl rfl nb ?_)
      refine dr_some (h5.at_.ldD 0 _ rfl rfl nb ?_)
      refine h5.at_.ldD 4 _ rfl rfl nb20 (h5.at_.ldD 4 _ rfl rfl nb20 ?_)
      refine ix_some rfl hin.1 hin.2 (h5.setHead hi (S.ask t i).1.1 fun w6 h6 M6 => ⟨M6.mono fun _ _ h => .inl h, ?_⟩)
      refine ix_some rfl hin.1 hin.2 (h6.setSome hi (S.ask t i).1.2.1 fun w7 h7 M7 => ⟨M6.trans M7 (fun _ _ h => .inl h) (fun _ _ h => .inr h), ?_⟩)
      refine fin _ _ _ _ h7 (List.sublist_cons_self _ _) ?_ ?_
      · unfold asksM; rw [if_neg he0, if_neg (by rw [ho]; decide)]
      · unfold asksM; rw [if_neg he0, if_neg (by rw [ho]; decide)]
end
end Go.Proofs.Ytfhojgammfkabaa

/- A merge of things: plays. -/
namespace Go.Proofs.Ytfhojgammfkabaa
open Go.Vw

def loV : Option Nat → Int
  | none => -1
  | some k => k
def EL : Enc (Option Nat) := ⟨1, fun x => [.int .i64 (loV x)], fun _ => rfl, by decide, fun x v h => by simp at h; subst h; rfl⟩
def getL (l : List (Option Nat)) (i : Nat) : Option Nat := l[i]?.getD none
theorem getL_at {l : List (Option Nat)} {i : Nat} (h : i < l.length) : l[i]? = some (getL l i) := by simp [getL, h]
/-- a source goes up the tree -/
def playsL (cmp : Thing → Thing → Int) (s : MS) (lost : List (Option Nat)) (i at_ : Nat) : List (Option Nat) × Option Nat :=
  if h : at_ = 0 then (lost, some i) else
    match getL lost at_ with
    | none => (lost.set at_ (some i), none)
    | some o => if aheadM cmp s o i then playsL cmp s (lost.set at_ (some i)) o (at_ / 2) else playsL cmp s lost i (at_ / 2)
termination_by at_
decreasing_by all_goals omega
def playsM (cmp : Thing → Thing → Int) (n : Nat) (s : MS) (lost : List (Option Nat)) (i : Nat) : MS × List (Option Nat) :=
  match playsL cmp s lost i ((i + n) / 2) with
  | (l, some j) => ({ s with win := j }, l)
  | (l, none) => (s, l)
def ValidL (n : Nat) (l : List (Option Nat)) : Prop := ∀ k, some k ∈ l → k < n
theorem ValidL.set {n : Nat} {l : List (Option Nat)} (h : ValidL n l) {i k : Nat} (hk : k < n) : ValidL n (l.set i (some k)) := fun j hj => by
  rcases List.mem_or_eq_of_mem_set hj with hj | hj
  · exact h j hj
  · cases hj; exact hk
theorem ValidL.get {n : Nat} {l : List (Option Nat)} (h : ValidL n l) {i k : Nat} (hi : i < l.length) (hk : getL l i = some k) : k < n := h k (hk ▸ List.mem_of_getElem? (getL_at hi))
section
variable {σ : Type} {S : Srcs σ} {w0 w : World} {D : Nat → Prop} {y : Ly} {s : MS} {r : List (Nat × List Value)} {t : σ} {F : Nat → Prop}
theorem MI.ldL {bl : Nat} {lost : List (Option Nat)} (h : MI S w0 D y s ((bl, EL.cells lost) :: r) t F w) {i : Nat} (hi : i < lost.length) : w.cell? ⟨bl, 0 + (i : Int).toNat * 1, none⟩ = some (LV.mk (.int .i64) (loV (getL lost i))).toV := by
  rw [(h.at_.blk (i := 4) rfl).cell, Nat.zero_add]
  have := EL.cells_get lost i 0 (by decide)
  rw [Nat.add_zero] at this
  refine this.trans ?_
  rw [getL_at hi]; rfl
theorem MI.setL {bl : Nat} {lost : List (Option Nat)} (h : MI S w0 D y s ((bl, EL.cells lost) :: r) t F w) {i : Nat} (hi : i < lost.length) (x : Option Nat) {K : World → Prop}
    (hK : ∀ w', MI S w0 D y s ((bl, EL.cells (lost.set i x)) :: r) t F w' → Mod (fun k => k = bl) w w' → K w') : Go.Vw.st w bl (0 + (i : Int).toNat * 1) [.int .i64 (loV x)] K := by
  have hset := EL.cells_set lost i 0 [.int .i64 (loV x)] (getL lost i) x [] (getL_at hi) (Nat.le_refl 1) rfl
  simp only [List.append_nil, Nat.add_zero] at hset
  refine h.st4 ?_ fun w' h' M' => hK w' ?_ M'
  · rw [EL.cells_length]; simp [EL]; omega
  · rw [Nat.zero_add] at h'
    have hset' : spl (EL.cells lost) ((i : Int).toNat * 1) (List.map LV.toV [.int .i64 (loV x)]) = EL.cells (lost.set i x) := hset
    rw [hset'] at h'; exact h'
theorem plays_ok (hy : Of S y) {cmp : Thing → Thing → Int} (hc : CmpOk y.cv cmp) {bl L : Nat} (hlo : y.lo = ⟨some (bl, 0), L, L⟩) (hn : y.n ≤ 64) {lost : List (Option Nat)} (hL : lost.length = L) (hnL : y.n ≤ L) (hL64 : L ≤ 64) (hv : ValidL y.n lost)
    (h : MI S w0 D y s ((bl, EL.cells lost) :: r) t F w) {i : Nat} (hi : i < y.n) {K : World → Prop}
    (hK : ∀ w', MI S w0 D y (playsM cmp y.n s lost i).1 ((bl, EL.cells (playsM cmp y.n s lost i).2) :: r) t F w' → (playsM cmp y.n s lost i).2.length = L → ValidL y.n (playsM cmp y.n s lost i).2 → K w') :
    callK Try.prog 42 [.leaf (.ptr (some (y.b, 0))), .leaf (.int .i64 i)] w (.tup []) K := by
  refine go_merge_Merge_plays_winnowref11_Thing _ _ _ _ ?_
  unfold S_merge_Merge_plays_winnowref11_Thing
  refine dr_some (h.at_.ld 0 _ rfl rfl ?_)
  have hst : w64 ((w64 ((i : Int) + (y.fr.len : Int))).tdiv 2) = (((i + y.n) / 2 : Nat) : Int) := by
    have h1 : w64 ((i : Int) + (y.n : Int)) = (i : Int) + (y.n : Int) := w64_in (by omega) (by omega)
    rw [hy.len, h1, Int.tdiv_eq_ediv_of_nonneg (by omega), w64_in (by omega) (by omega)]
    omega
  rw [hst]
  have ext : ∀ lost' i' at' (w' : World), playsL cmp s lost' i' at' = playsL cmp s lost i ((i + y.n) / 2) → ∀ l o, playsL cmp s lost' i' at' = (l, o) →
      (∀ (j : Nat), o = some j → MI S w0 D y { s with win := j } ((bl, EL.cells l) :: r) t F w') → (o = none → MI S w0 D y s ((bl, EL.cells l) :: r) t F w') → l.length = L → ValidL y.n l → K w' := by
    intro lost' i' at' w' he l o hlo' h1 h2 hl hv'
    rw [he] at hlo'
    cases o with
    | some j =>
      have hp : playsM cmp y.n s lost i = ({ s with win := j }, l) := by unfold playsM; rw [hlo']
      have := hK w'; rw [hp] at this; exact this (h1 j rfl) hl hv'
    | none =>
      have hp : playsM cmp y.n s lost i = (s, l) := by unfold playsM; rw [hlo']
      have := hK w'; rw [hp] at this; exact this (h2 rfl) hl hv'
  refine join1 (a := .int .i64) (fun x w' => ∃ i' lost', x = ((i' : Nat) : Int) ∧ i' < y.n ∧ lost'.length = L ∧ ValidL y.n lost' ∧ MI S w0 D y s ((bl, EL.cells lost') :: r) t F w' ∧ playsL cmp s lost' i' 0 = playsL cmp s lost i ((i + y.n) / 2)) (fun k hk => ?_) ?_
  · refine loop2 (k1 := .int .i64) (k2 := .int .i64) (fun x a w' => ∃ i' at' lost', x = ((i' : Nat) : Int) ∧ a = ((at' : Nat) : Int) ∧ i' < y.n ∧ at' < L ∧ lost'.length = L ∧ ValidL y.n lost' ∧ MI S w0 D y s ((bl, EL.cells lost') :: r) t F w' ∧ playsL cmp s lost' i' at' = playsL cmp s lost i ((i + y.n) / 2))
      (fun _ a _ => a.toNat) rfl rfl ⟨i, (i + y.n) / 2, lost, rfl, rfl, hi, by omega, hL, hv, h, rfl⟩ ?_
    rintro x a w1 ⟨i1, at1, lost1, rfl, rfl, hi1, ha1, hL1, hv1, h1, he1⟩
    refine ifK_intro (fun hpos => ?_) (fun hpos => ?_)
    · have hpos' : 0 < at1 := by simpa using hpos
      have halt : at1 < lost1.length := by omega
      have hix : (0 : Int) ≤ at1 ∧ (at1 : Int) < (L : Nat) := ⟨by omega, by omega⟩
      have hdiv : w64 ((at1 : Int).tdiv 2) = ((at1 / 2 : Nat) : Int) := by
        have : y.n ≤ 64 := hn
        rw [Int.tdiv_eq_ediv_of_nonneg (by omega)]
        rw [w64_in (by omega) (by omega)]; omega
      refine dr_some (h1.at_.ld 0 y.lo rfl rfl ?_)
      refine ix_some (hc := by rw [hlo]; exact Nat.le_refl _) (o := 0) (b := bl) (by rw [hlo]) hix.1 (by rw [hlo]; exact hix.2) (ld_cell _ (h1.ldL halt) ?_)
      refine ifK_intro (fun hno => ?_) (fun hno => ?_)
      · have hnone : getL lost1 at1 = none := by
          cases hg : getL lost1 at1 with
          | none => rfl
          | some k => rw [hg] at hno; simp [loV] at hno
        refine dr_some (h1.at_.ld 0 y.lo rfl rfl ?_)
        refine ix_some (hc := by rw [hlo]; exact Nat.le_refl _) (o := 0) (b := bl) (by rw [hlo]) hix.1 (by rw [hlo]; exact hix.2) (h1.setL halt (some i1) fun w2 h2 _ => ?_)
        refine ext _ _ _ w2 he1 (lost1.set at1 (some i1)) none ?_ (fun j hj => by cases hj) (fun _ => h2) (by simp [hL1]) (hv1.set hi1)
        rw [playsL, dif_neg (by omega), hnone]
      · obtain ⟨o, ho⟩ : ∃ o, getL lost1 at1 = some o := by
          cases hg : getL lost1 at1 with
          | none => rw [hg] at hno; simp [loV] at hno
          | some k => exact ⟨k, rfl⟩
        have hon : o < y.n := hv1.get halt ho
        rw [ho]
        refine ahead_ok h1.at_ h1.ok hc hon hi1 fun w2 hA2 M2 => ?_
        have h2 := h1.calm M2
        have hstep := he1
        rw [playsL, dif_neg (by omega), ho] at hstep
        refine join1 (a := .int .i64) (fun x w' => ∃ i' lost', x = ((i' : Nat) : Int) ∧ i' < y.n ∧ lost'.length = L ∧ ValidL y.n lost' ∧ MI S w0 D y s ((bl, EL.cells lost') :: r) t F w' ∧ playsL cmp s lost' i' (at1 / 2) = playsL cmp s lost i ((i + y.n) / 2)) (fun k2 hk2 => ?_) ?_
        · refine ifK_intro (fun hah => ?_) (fun hah => ?_)
          · refine dr_some (h2.at_.ld 0 y.lo rfl rfl ?_)
            refine ix_some (hc := by rw [hlo]; exact Nat.le_refl _) (o := 0) (b := bl) (by rw [hlo]) hix.1 (by rw [hlo]; exact hix.2) (h2.setL halt (some i1) fun w3 h3 _ => ?_)
            refine hk2 _ _ ⟨o, _, rfl, hon, by simp [hL1], hv1.set hi1, h3, ?_⟩
            simp only [hah, if_true] at hstep; exact hstep
          · refine hk2 _ _ ⟨i1, _, rfl, hi1, hL1, hv1, h2, ?_⟩
            simp only [hah, Bool.false_eq_true, if_false] at hstep; exact hstep
        · rintro x w3 ⟨i3, lost3, rfl, hi3, hL3, hv3, h3, he3⟩
          rw [hdiv]
          exact ⟨⟨i3, at1 / 2, lost3, rfl, rfl, hi3, by omega, hL3, hv3, h3, he3⟩, by simp; omega⟩
    · have h0 : at1 = 0 := by simp at hpos; omega
      subst h0
      exact hk _ _ ⟨i1, lost1, rfl, hi1, hL1, hv1, h1, he1⟩
  · rintro x w1 ⟨i1, lost1, rfl, hi1, hL1, hv1, h1, he1⟩
    refine dr_some (h1.st0 { s with win := i1 } (show (6 : Nat) ≤ 9 by decide) rfl rfl rfl fun w2 h2 _ => ?_)
    refine ext _ _ _ w2 he1 lost1 (some i1) (by rw [playsL, dif_pos rfl]) (fun j hj => by cases hj; exact h2) (fun h => by cases h) hL1 hv1
end
end Go.Proofs.Ytfhojgammfkabaa

/- A merge of things: begin. -/
namespace Go.Proofs.Ytfhojgammfkabaa
open Go.Vw

section
variable {σ : Type} {S : Srcs σ} {w0 w : World} {D : Nat → Prop} {y : Ly} {s : MS} {r : List (Nat × List Value)} {t : σ} {F : Nat → Prop}
theorem MI.add (h : MI S w0 D y s r t F w) {w' : World} {b : Nat} {c : List Value} (hM : Mod (fun _ => False) w w') (hb : Blk w' b c) (hf : w.heap.size ≤ b) : MI S w0 D y s ((b, c) :: r) t F w' := by
  have h1 := h.calm hM
  have hA := h1.at_.add hb (fun p hp e => by have := At.lt h.at_ p hp; omega) (fun hlt => absurd hlt (by have := h.at_.mod.size; omega))
  have hp : (y.m s ((b, c) :: r)).Perm (y.m s r ++ [(b, c)]) := by
    simp only [Ly.m, List.cons_append]
    refine .cons _ (.cons _ (.cons _ (.cons _ ?_)))
    exact (List.perm_append_comm (l₁ := [_]) (l₂ := r))
  refine ⟨⟨hA.mod, fun p hpp => hA.own p (hp.subset hpp), (hp.map Prod.fst).nodup_iff.2 hA.nodup, fun p hpp => hA.wr p (hp.subset hpp)⟩, h1.ok, h1.src, ⟨h1.off.b, h1.off.bf, h1.off.bh, h1.off.bs, ?_⟩, h1.dom⟩
  intro p hpp hfp
  rcases List.mem_cons.1 hpp with rfl | hpp
  · rcases hfp with hfp | hfp
    · have := S.lt _ _ _ _ h.src hfp
      simp at this; omega
    · have := At.lt h.at_ _ (by simp [Ly.m] : (y.b, y.st s) ∈ y.m s r)
      exact h.off.b (.inr (by simp at this hfp ⊢; omega))
  · exact h1.off.r p hpp hfp
theorem MI.stLo (h : MI S w0 D y s r t F w) (l : Sl) {K : World → Prop} (hK : ∀ w', MI S w0 D { y with lo := l } s r t F w' → K w') : Go.Vw.st w y.b (0 + 4) [.sl l] K :=
  h.at_.st 0 rfl (show (5 : Nat) ≤ 9 by decide) fun w' hA hM => hK w' ⟨hA, ⟨h.ok.hd, h.ok.sm⟩, S.keepG h.src hM (fun x hx e => by subst e; exact h.off.b hx), ⟨h.off.b, h.off.bf, h.off.bh, h.off.bs, h.off.r⟩, h.dom⟩

def askAllM (S : Srcs σ) (cmp : Thing → Thing → Int) : Nat → MS → σ → Nat → Int × MS × σ
  | 0, s, t, _ => (0, s, t)
  | k + 1, s, t, i => if (asksM S cmp s t i).1 ≠ 0 then asksM S cmp s t i else askAllM S cmp k (asksM S cmp s t i).2.1 (asksM S cmp s t i).2.2 (i + 1)
def playAllM (cmp : Thing → Thing → Int) (n : Nat) : Nat → MS → List (Option Nat) → Nat → MS × List (Option Nat)
  | 0, s, l, _ => (s, l)
  | k + 1, s, l, i => playAllM cmp n k (playsM cmp n s l i).1 (playsM cmp n s l i).2 (i + 1)
def beginM (S : Srcs σ) (cmp : Thing → Thing → Int) (n : Nat) (s : MS) (t : σ) : Int × (MS × List (Option Nat)) × σ :=
  if (askAllM S cmp n { s with bg := true } t 0).1 ≠ 0 then ((askAllM S cmp n { s with bg := true } t 0).1, ((askAllM S cmp n { s with bg := true } t 0).2.1, []), (askAllM S cmp n { s with bg := true } t 0).2.2)
  else (0, playAllM cmp n n (askAllM S cmp n { s with bg := true } t 0).2.1 (List.replicate (max n 1) none) 0, (askAllM S cmp n { s with bg := true } t 0).2.2)
/-- the tree lies there -/
def Tree (y : Ly) (l : List (Option Nat)) (rl : List (Nat × List Value)) : Prop := ∃ bl, rl = [(bl, EL.cells l)] ∧ y.lo = ⟨some (bl, 0), max y.n 1, max y.n 1⟩ ∧ l.length = max y.n 1 ∧ ValidL y.n l
theorem begin_ok (hy : Of S y) {cmp : Thing → Thing → Int} (hc : CmpOk y.cv cmp) (hn : y.n ≤ 64) (h : MI S w0 D y s r t F w) {K : Int → World → Prop}
    (hK1 : ∀ w' F', (beginM S cmp y.n s t).1 ≠ 0 → MI S w0 D y (beginM S cmp y.n s t).2.1.1 r (beginM S cmp y.n s t).2.2 F' w' → K (beginM S cmp y.n s t).1 w')
    (hK2 : ∀ w' F' lo rl, (beginM S cmp y.n s t).1 = 0 → MI S w0 D { y with lo := lo } (beginM S cmp y.n s t).2.1.1 (rl ++ r) (beginM S cmp y.n s t).2.2 F' w' → Tree { y with lo := lo } (beginM S cmp y.n s t).2.1.2 rl → K 0 w') :
    callK Try.prog 40 [.leaf (.ptr (some (y.b, 0)))] w (.one (.leaf (.int .i64))) K := by
  refine go_merge_Merge_begin_winnowref11_Thing _ _ _ ?_
  unfold S_merge_Merge_begin_winnowref11_Thing
  refine dr_some (h.st0 { s with bg := true } (show (7 : Nat) ≤ 9 by decide) rfl rfl rfl fun w1 h1 _ => ?_)
  refine dr_some (h1.at_.ld 0 y.fr rfl rfl ?_)
  refine join0 (fun w' => ∃ s' t' F', MI S w0 D y s' r t' F' w' ∧ askAllM S cmp y.n { s with bg := true } t 0 = (0, s', t')) (fun k hk => ?_) ?_
  · refine loop1 (k := .int .i64) (fun x w' => ∃ (i : Nat) (s' : MS) (t' : σ) (F' : Nat → Prop), x = (i : Int) ∧ i ≤ y.n ∧ MI S w0 D y s' r t' F' w' ∧ askAllM S cmp (y.n - i) s' t' i = askAllM S cmp y.n { s with bg := true } t 0)
      (fun x _ => (y.n - x.toNat)) rfl ⟨0, _, t, F, rfl, by omega, h1, rfl⟩ ?_
    rintro x w2 ⟨i, s2, t2, F2, rfl, hi, h2, he2⟩
    refine ifK_intro (fun hlt => ?_) (fun hlt => ?_)
    · have hlt' : i < y.n := by rw [hy.len] at hlt; simpa using hlt
      have hsucc : y.n - i = (y.n - (i + 1)) + 1 := by omega
      rw [hsucc, askAllM] at he2
      refine asks_ok hy hc h2 hlt' fun w3 F3 h3 _ => ?_
      refine ifK_intro (fun he => ?_) (fun he => ?_)
      · have he' : (asksM S cmp s2 t2 i).1 ≠ 0 := by simpa using he
        rw [if_pos he'] at he2
        have hb : beginM S cmp y.n s t = ((asksM S cmp s2 t2 i).1, ((asksM S cmp s2 t2 i).2.1, []), (asksM S cmp s2 t2 i).2.2) := by
          unfold beginM; rw [← he2, if_pos he']
        have := hK1 w3 F3; rw [hb] at this; exact this he' h3
      · have he' : ¬ (asksM S cmp s2 t2 i).1 ≠ 0 := by simpa using he
        rw [if_neg he'] at he2
        have : w64 ((i : Int) + 1) = ((i + 1 : Nat) : Int) := by rw [w64_in (by omega) (by omega)]; omega
        rw [this]
        exact ⟨⟨i + 1, _, _, F3, rfl, by omega, h3, he2⟩, by simp; omega⟩
    · have hge : i = y.n := by rw [hy.len] at hlt; simp at hlt; omega
      subst hge
      refine hk _ ⟨s2, t2, F2, h2, ?_⟩
      rw [Nat.sub_self, askAllM] at he2; exact he2.symm
  · rintro w2 ⟨s2, t2, F2, h2, he2⟩
    have hb : beginM S cmp y.n s t = (0, playAllM cmp y.n y.n s2 (List.replicate (max y.n 1) none) 0, t2) := by
      unfold beginM; rw [he2]; simp
    refine dr_some (h2.at_.ld 0 y.fr rfl rfl ?_)
    have hmx : mxI (y.fr.len : Int) 1 = ((max y.n 1 : Nat) : Int) := by rw [hy.len]; unfold mxI; split <;> omega
    rw [hmx]
    refine Vec.mkK EL (some 0) (max y.n 1) rfl rfl (by omega) (by omega) fun w3 _ hb3 M3 => ?_
    have h3 := h2.add M3 hb3 (Nat.le_refl _)
    generalize hbl : w2.heap.size = bl at h3
    refine dr_some (h3.stLo _ fun w4 h4 => ?_)
    refine dr_some (h4.at_.ld 0 _ rfl rfl ?_)
    refine join0 (fun w' => MI S w0 D { y with lo := ⟨some (bl, 0), max y.n 1, max y.n 1⟩ } s2 ((bl, EL.cells (List.replicate (max y.n 1) none)) :: r) t2 F2 w') (fun k hk => ?_) ?_
    · refine loop1 (k := .int .i64) (fun x w' => ∃ (i : Nat) (l : List (Option Nat)), x = (i : Int) ∧ i ≤ max y.n 1 ∧ l.length = max y.n 1 ∧ (∀ j, j < i → getL l j = none) ∧ MI S w0 D { y with lo := ⟨some (bl, 0), max y.n 1, max y.n 1⟩ } s2 ((bl, EL.cells l) :: r) t2 F2 w')
        (fun x _ => (max y.n 1 - x.toNat)) rfl ⟨0, _, rfl, by omega, by simp, by omega, h4⟩ ?_
      rintro x w5 ⟨i, l, rfl, hi, hl, hnone, h5⟩
      refine ifK_intro (fun hlt => ?_) (fun hlt => ?_)
      · have hlt' : i < max y.n 1 := by simpa using hlt
        refine dr_some (h5.at_.ld 0 _ rfl rfl ?_)
        refine ix_some (o := 0) (b := bl) rfl (by omega) (by simpa using hlt) ?_
        refine h5.setL (x := none) (i := i) (by omega) fun w6 h6 _ => ?_
        have : w64 ((i : Int) + 1) = ((i + 1 : Nat) : Int) := by rw [w64_in (by omega) (by omega)]; omega
        rw [this]
        refine ⟨⟨i + 1, _, rfl, by omega, by simp [hl], fun j hj => ?_, h6⟩, by simp; omega⟩
        by_cases hji : j = i
        · subst hji; simp [getL, hl, hlt']
        · have := hnone j (by omega)
          simpa [getL, List.getElem?_set, Ne.symm hji] using this
      · have hge : i = max y.n 1 := by simp at hlt; omega
        have hall : l = List.replicate (max y.n 1) none := by
          refine List.eq_replicate_iff.2 ⟨hl, fun x hx => ?_⟩
          obtain ⟨j, hj⟩ := List.mem_iff_getElem?.1 hx
          have hjl := (List.getElem?_eq_some_iff.1 hj).1
          have := hnone j (by omega)
          simpa [getL, hj] using this
        subst hall
        exact hk _ h5
    · intro w5 h5
      refine dr_some (h5.at_.ld 0 y.fr rfl rfl ?_)
      refine join0 (fun w' => ∃ s' l', playAllM cmp y.n y.n s2 (List.replicate (max y.n 1) none) 0 = (s', l') ∧ l'.length = max y.n 1 ∧ ValidL y.n l' ∧ MI S w0 D { y with lo := ⟨some (bl, 0), max y.n 1, max y.n 1⟩ } s' ((bl, EL.cells l') :: r) t2 F2 w') (fun k hk => ?_) ?_
      · refine loop1 (k := .int .i64) (fun x w' => ∃ (i : Nat) (s' : MS) (l : List (Option Nat)), x = (i : Int) ∧ i ≤ y.n ∧ l.length = max y.n 1 ∧ ValidL y.n l ∧ playAllM cmp y.n (y.n - i) s' l i = playAllM cmp y.n y.n s2 (List.replicate (max y.n 1) none) 0 ∧ MI S w0 D { y with lo := ⟨some (bl, 0), max y.n 1, max y.n 1⟩ } s' ((bl, EL.cells l) :: r) t2 F2 w')
          (fun x _ => (y.n - x.toNat)) rfl ⟨0, _, _, rfl, by omega, by simp, fun k hk => by simp [List.mem_replicate] at hk, rfl, h5⟩ ?_
        rintro x w6 ⟨i, s6, l6, rfl, hi, hl6, hv6, he6, h6⟩
        refine ifK_intro (fun hlt => ?_) (fun hlt => ?_)
        · have hlt' : i < y.n := by rw [hy.len] at hlt; simpa using hlt
          have hy' : Of S { y with lo := ⟨some (bl, 0), max y.n 1, max y.n 1⟩ } := ⟨hy.n, hy.p, hy.len, hy.cap, hy.v⟩
          refine plays_ok (y := { y with lo := ⟨some (bl, 0), max y.n 1, max y.n 1⟩ }) hy' hc rfl hn hl6 (by simp; omega) (by omega) hv6 h6 hlt' fun w7 h7 hl7 hv7 => ?_
          have hsucc : y.n - i = (y.n - (i + 1)) + 1 := by omega
          rw [hsucc, playAllM] at he6
          have : w64 ((i : Int) + 1) = ((i + 1 : Nat) : Int) := by rw [w64_in (by omega) (by omega)]; omega
          rw [this]
          exact ⟨⟨i + 1, _, _, rfl, by omega, hl7, hv7, he6, h7⟩, by simp; omega⟩
        · have hge : i = y.n := by rw [hy.len] at hlt; simp at hlt; omega
          subst hge
          rw [Nat.sub_self, playAllM] at he6
          exact hk _ ⟨s6, l6, he6.symm, hl6, hv6, h6⟩
      · rintro w6 ⟨s6, l6, he6, hl6, hv6, h6⟩
        have := hK2 w6 F2 ⟨some (bl, 0), max y.n 1, max y.n 1⟩ [(bl, EL.cells l6)]
        rw [hb, he6] at this
        exact this rfl h6 ⟨bl, rfl, rfl, hl6, hv6⟩
end
end Go.Proofs.Ytfhojgammfkabaa

/- A merge of things: Next. -/
namespace Go.Proofs.Ytfhojgammfkabaa
open Go.Vw

section
variable {σ : Type} {S : Srcs σ} {w0 w : World} {D : Nat → Prop} {y : Ly} {r : List (Nat × List Value)} {t : σ} {F : Nat → Prop}
abbrev PM := MS × List (Option Nat)
/-- what is known of a merge between two calls -/
structure MF (S : Srcs σ) (w0 : World) (D : Nat → Prop) (y : Ly) (p : PM) (r : List (Nat × List Value)) (t : σ) (F : Nat → Prop) (w : World) : Prop where
  ex : ∃ lo rl, MI S w0 D { y with lo := lo } p.1 (rl ++ r) t F w ∧ (p.1.bg = true → p.1.ov = false → Tree { y with lo := lo } p.2 rl)
  win : p.1.bg = true → p.1.ov = false → p.1.win < y.n
/-- the next thing: what is done ahead of the answer -/
def qM (S : Srcs σ) (cmp : Thing → Thing → Int) (n : Nat) (p : PM) (t : σ) : Int × PM × σ :=
  if p.1.bg then
    if (asksM S cmp p.1 t p.1.win).1 ≠ 0 then ((asksM S cmp p.1 t p.1.win).1, ((asksM S cmp p.1 t p.1.win).2.1, p.2), (asksM S cmp p.1 t p.1.win).2.2)
    else (0, playsM cmp n (asksM S cmp p.1 t p.1.win).2.1 p.2 (asksM S cmp p.1 t p.1.win).2.1.win, (asksM S cmp p.1 t p.1.win).2.2)
  else beginM S cmp n p.1 t
/-- the next thing -/
def nextM (S : Srcs σ) (cmp : Thing → Thing → Int) (n : Nat) (p : PM) (t : σ) : (Thing × Bool × Int) × PM × σ :=
  if p.1.ov then (((0, 0), false, p.1.e), p, t)
  else if (qM S cmp n p t).1 ≠ 0 then (((0, 0), false, (qM S cmp n p t).1), (qM S cmp n p t).2)
  else if n = 0 ∨ getB (qM S cmp n p t).2.1.1.sm (qM S cmp n p t).2.1.1.win = false then (((0, 0), false, 0), ({ (qM S cmp n p t).2.1.1 with ov := true, e := 0 }, (qM S cmp n p t).2.1.2), (qM S cmp n p t).2.2)
  else ((getT (qM S cmp n p t).2.1.1.hd (qM S cmp n p t).2.1.1.win, true, 0), (qM S cmp n p t).2)
/-! small facts of the plain steps -/
theorem asksM_keep {cmp : Thing → Thing → Int} {s : MS} {i : Nat} : (asksM S cmp s t i).2.1.bg = s.bg ∧ (asksM S cmp s t i).2.1.win = s.win ∧ ((asksM S cmp s t i).1 = 0 → (asksM S cmp s t i).2.1.ov = s.ov ∧ (asksM S cmp s t i).2.1.e = s.e) ∧ ((asksM S cmp s t i).1 ≠ 0 → (asksM S cmp s t i).2.1.ov = true ∧ (asksM S cmp s t i).2.1.e = (asksM S cmp s t i).1) := by
  unfold asksM
  split
  · rename_i h; exact ⟨rfl, rfl, fun h' => absurd h' h, fun _ => ⟨rfl, rfl⟩⟩
  · split
    · exact ⟨rfl, rfl, fun h' => by simp at h', fun _ => ⟨rfl, rfl⟩⟩
    · exact ⟨rfl, rfl, fun _ => ⟨rfl, rfl⟩, fun h => absurd rfl h⟩
theorem playsL_win {cmp : Thing → Thing → Int} {s : MS} {n : Nat} : ∀ (a : Nat) (l : List (Option Nat)) (i : Nat), i < n → ValidL n l → a < l.length → ∀ j, (playsL cmp s l i a).2 = some j → j < n := by
  intro a
  induction a using Nat.strongRecOn with
  | _ a ih =>
    intro l i hi hv ha j hj
    rw [playsL] at hj
    split at hj
    · cases hj; exact hi
    · rename_i h0
      split at hj
      · cases hj
      · rename_i o ho
        split at hj
        · exact ih (a / 2) (by omega) _ _ (hv.get ha ho) (hv.set hi) (by simp; omega) j hj
        · exact ih (a / 2) (by omega) _ _ hi hv (by omega) j hj
theorem playsM_keep {cmp : Thing → Thing → Int} {n : Nat} {s : MS} {l : List (Option Nat)} {i : Nat} : (playsM cmp n s l i).1.bg = s.bg ∧ (playsM cmp n s l i).1.ov = s.ov ∧ (playsM cmp n s l i).1.e = s.e ∧ (playsM cmp n s l i).1.hd = s.hd ∧ (playsM cmp n s l i).1.sm = s.sm := by
  unfold playsM
  split <;> exact ⟨rfl, rfl, rfl, rfl, rfl⟩
theorem playsM_win {cmp : Thing → Thing → Int} {n : Nat} {s : MS} {l : List (Option Nat)} {i : Nat} (hi : i < n) (hv : ValidL n l) (hl : n ≤ l.length) (hw : s.win < n) : (playsM cmp n s l i).1.win < n := by
  unfold playsM
  split
  · rename_i l' j h; exact playsL_win ((i + n) / 2) l i hi hv (by omega) j (by rw [h])
  · exact hw
theorem askAllM_keep {cmp : Thing → Thing → Int} : ∀ (k : Nat) (s : MS) (t : σ) (i : Nat), (askAllM S cmp k s t i).2.1.bg = s.bg ∧ (askAllM S cmp k s t i).2.1.win = s.win ∧ ((askAllM S cmp k s t i).1 = 0 → (askAllM S cmp k s t i).2.1.ov = s.ov ∧ (askAllM S cmp k s t i).2.1.e = s.e) ∧ ((askAllM S cmp k s t i).1 ≠ 0 → (askAllM S cmp k s t i).2.1.ov = true ∧ (askAllM S cmp k s t i).2.1.e = (askAllM S cmp k s t i).1)
  | 0, s, t, i => ⟨rfl, rfl, fun _ => ⟨rfl, rfl⟩, fun h => absurd rfl h⟩
  | k + 1, s, t, i => by
    obtain ⟨a1, a2, a3, a4⟩ := asksM_keep (S := S) (t := t) (cmp := cmp) (s := s) (i := i)
    rw [askAllM]
    split
    · exact ⟨a1, a2, a3, a4⟩
    · rename_i h
      have h : (asksM S cmp s t i).1 = 0 := by simpa using h
      obtain ⟨b1, b2, b3, b4⟩ := askAllM_keep (cmp := cmp) k (asksM S cmp s t i).2.1 (asksM S cmp s t i).2.2 (i + 1)
      exact ⟨b1.trans a1, b2.trans a2, fun h' => ⟨(b3 h').1.trans (a3 h).1, (b3 h').2.trans (a3 h).2⟩, b4⟩
theorem playAllM_keep {cmp : Thing → Thing → Int} {n : Nat} : ∀ (k : Nat) (s : MS) (l : List (Option Nat)) (i : Nat), (playAllM cmp n k s l i).1.bg = s.bg ∧ (playAllM cmp n k s l i).1.ov = s.ov ∧ (playAllM cmp n k s l i).1.e = s.e ∧ (playAllM cmp n k s l i).1.hd = s.hd ∧ (playAllM cmp n k s l i).1.sm = s.sm
  | 0, s, l, i => ⟨rfl, rfl, rfl, rfl, rfl⟩
  | k + 1, s, l, i => by
    obtain ⟨a1, a2, a3, a4, a5⟩ := playsM_keep (cmp := cmp) (n := n) (s := s) (l := l) (i := i)
    obtain ⟨b1, b2, b3, b4, b5⟩ := playAllM_keep (cmp := cmp) (n := n) k (playsM cmp n s l i).1 (playsM cmp n s l i).2 (i + 1)
    exact ⟨b1.trans a1, b2.trans a2, b3.trans a3, b4.trans a4, b5.trans a5⟩
theorem playsL_len {cmp : Thing → Thing → Int} {s : MS} {n : Nat} : ∀ (a : Nat) (l : List (Option Nat)) (i : Nat), i < n → ValidL n l → a < l.length → (playsL cmp s l i a).1.length = l.length ∧ ValidL n (playsL cmp s l i a).1 := by
  intro a
  induction a using Nat.strongRecOn with
  | _ a ih =>
    intro l i hi hv ha
    rw [playsL]
    split
    · exact ⟨rfl, hv⟩
    · rename_i h0
      split
      · exact ⟨by simp, hv.set hi⟩
      · rename_i o ho
        split
        · have := ih (a / 2) (by omega) (l.set a (some i)) o (hv.get ha ho) (hv.set hi) (by simp; omega)
          exact ⟨this.1.trans (by simp), this.2⟩
        · exact ih (a / 2) (by omega) _ _ hi hv (by omega)
theorem playsM_len {cmp : Thing → Thing → Int} {n : Nat} {s : MS} {l : List (Option Nat)} {i : Nat} (hi : i < n) (hv : ValidL n l) (hl : n ≤ l.length) : (playsM cmp n s l i).2.length = l.length ∧ ValidL n (playsM cmp n s l i).2 := by
  have := playsL_len (cmp := cmp) (s := s) ((i + n) / 2) l i hi hv (by omega)
  unfold playsM
  split <;> (rename_i h; rw [h] at this; exact this)
theorem playAllM_win {cmp : Thing → Thing → Int} {n : Nat} : ∀ (k : Nat) (s : MS) (l : List (Option Nat)) (i : Nat), i + k = n → ValidL n l → n ≤ l.length → s.win < n → (playAllM cmp n k s l i).1.win < n
  | 0, s, l, i, _, _, _, h => h
  | k + 1, s, l, i, hk, hv, hl, h => by
    rw [playAllM]
    have hlen := playsM_len (cmp := cmp) (s := s) (l := l) (i := i) (n := n) (by omega) hv hl
    exact playAllM_win k _ _ (i + 1) (by omega) hlen.2 (by rw [hlen.1]; exact hl) (playsM_win (by omega) hv hl h)
theorem beginM_keep {cmp : Thing → Thing → Int} {n : Nat} {s : MS} : (beginM S cmp n s t).2.1.1.bg = true ∧ ((beginM S cmp n s t).1 = 0 → (beginM S cmp n s t).2.1.1.ov = s.ov ∧ (beginM S cmp n s t).2.1.1.e = s.e) ∧ ((beginM S cmp n s t).1 ≠ 0 → (beginM S cmp n s t).2.1.1.ov = true ∧ (beginM S cmp n s t).2.1.1.e = (beginM S cmp n s t).1) ∧
    ((beginM S cmp n s t).1 = 0 → s.win = 0 → 0 < n → (beginM S cmp n s t).2.1.1.win < n) := by
  obtain ⟨a1, a2, a3, a4⟩ := askAllM_keep (S := S) (cmp := cmp) n { s with bg := true } t 0
  unfold beginM
  split
  · rename_i h; exact ⟨a1, fun h' => absurd h' h, fun _ => a4 h, fun h' => absurd h' h⟩
  · rename_i h
    have h : (askAllM S cmp n { s with bg := true } t 0).1 = 0 := by simpa using h
    obtain ⟨b1, b2, b3, b4, b5⟩ := playAllM_keep (cmp := cmp) (n := n) n (askAllM S cmp n { s with bg := true } t 0).2.1 (List.replicate (max n 1) none) 0
    refine ⟨b1.trans a1, fun _ => ⟨b2.trans (a3 h).1, b3.trans (a3 h).2⟩, fun h' => absurd rfl h', fun _ hw hn => ?_⟩
    exact playAllM_win n _ _ 0 (by omega) (fun k hk => by simp [List.mem_replicate] at hk) (by simp; omega) (by rw [a2]; simpa [hw] using hn)
theorem MI.perm {s : MS} {r' : List (Nat × List Value)} (h : MI S w0 D y s r t F w) (hp : r'.Perm r) : MI S w0 D y s r' t F w := by
  have hpm : (y.m s r').Perm (y.m s r) := by
    simp only [Ly.m]
    exact .cons _ (.cons _ (.cons _ (.cons _ hp)))
  exact ⟨⟨h.at_.mod, fun p hpp => h.at_.own p (hpm.subset hpp), (hpm.map Prod.fst).nodup_iff.2 h.at_.nodup, fun p hpp => h.at_.wr p (hpm.subset hpp)⟩, h.ok, h.src, ⟨h.off.b, h.off.bf, h.off.bh, h.off.bs, fun p hpp => h.off.r p (hp.subset hpp)⟩, h.dom⟩
theorem MI.st5 {s : MS} {b b1 : Nat} {c c1 : List Value} (h : MI S w0 D y s ((b1, c1) :: (b, c) :: r) t F w) {o : Nat} {vs : List LV} {K : World → Prop} (hl : o + vs.length ≤ c.length)
    (hK : ∀ w', MI S w0 D y s ((b1, c1) :: (b, spl c o (vs.map LV.toV)) :: r) t F w' → Mod (fun k => k = b) w w' → K w') : Go.Vw.st w b o vs K :=
  h.st 5 (s' := s) rfl hl rfl h.ok (fun p hp => by
    rcases List.mem_cons.1 hp with rfl | hp
    · exact ⟨(b1, c1), by simp, rfl⟩
    · rcases List.mem_cons.1 hp with rfl | hp
      · exact ⟨(b, c), by simp, rfl⟩
      · exact ⟨p, by simp [hp], rfl⟩) hK
abbrev zT : List Value := [.int .i64 0, .int .i64 0]
/-- the end of Next with no thing -/
theorem next_err {s : MS} {b2 b4 : Nat} (h : MI S w0 D y s ((b4, zT) :: (b2, zT) :: r) t F w) {K : Int → Int → World → Prop} (hK : ∀ w', MI S w0 D y s r t F w' → K 0 0 w') :
    Go.Vw.ld w (.int .i64) b4 0 fun n29 => Go.Vw.ld w (.int .i64) b4 1 fun n30 => Go.Vw.st w b2 0 [.int .i64 n29, .int .i64 n30] fun w_31 => Go.Vw.ld w_31 (.int .i64) b2 0 fun n32 => Go.Vw.ld w_31 (.int .i64) b2 1 fun n33 => K n32 n33 w_31 := by
  refine h.at_.ld 4 0 rfl rfl (h.at_.ld 4 0 rfl rfl (h.st5 (Nat.le_refl 2) fun w1 h1 _ => ?_))
  refine h1.at_.ld 5 0 rfl rfl (h1.at_.ld 5 0 rfl rfl (hK _ (h1.drop ((List.sublist_cons_self _ _).trans (List.sublist_cons_self _ _)))))
theorem next_ok (hy : Of S y) {cmp : Thing → Thing → Int} (hc : CmpOk y.cv cmp) (hn : y.n ≤ 64) {p : PM} (hw0 : p.1.bg = false → p.1.win = 0 ∧ p.1.ov = false) (h : MF S w0 D y p r t F w) {K : Int → Int → Bool → Int → World → Prop}
    (hK : ∀ w' F', MF S w0 D y (nextM S cmp y.n p t).2.1 r (nextM S cmp y.n p t).2.2 F' w' → K (nextM S cmp y.n p t).1.1.1 (nextM S cmp y.n p t).1.1.2 (nextM S cmp y.n p t).1.2.1 (nextM S cmp y.n p t).1.2.2 w') :
    callK Try.prog 27 [.leaf (.ptr (some (y.b, 0)))] w (.tup [.agg [.int .i64, .int .i64], .leaf .bool, .leaf (.int .i64)]) K := by
  refine go_merge_Merge_Next_winnowref11_Thing _ _ _ ?_
  unfold S_merge_Merge_Next_winnowref11_Thing
  have hwin := h.win
  obtain ⟨lo, rl, h, htree⟩ := h.ex
  refine h.al fun b2 w1 h1 _ _ => h1.al fun b4 w2 h2 _ _ => ifK_f rfl ?_
  have h2 : MI S w0 D { y with lo := lo } p.1 ((b4, zT) :: (b2, zT) :: (rl ++ r)) t F w2 := h2
  refine dr_some (h2.at_.ld 0 p.1.ov rfl rfl ?_)
  refine ifK_intro (fun hov => ?_) (fun hov => ?_)
  · refine ⟨fun k => k = b2, ?_⟩
    have h3 := h2.drew
    have hne : ¬ b4 = b2 := h3.at_.ne (i := 4) (j := 5) rfl rfl (by decide)
    have hne2 : ¬ y.b = b2 := h3.at_.ne (i := 0) (j := 5) rfl rfl (by decide)
    refine h3.at_.ldD 4 0 rfl rfl hne (h3.at_.ldD 4 0 rfl rfl hne (dr_some (h3.at_.ldD 0 p.1.e rfl rfl hne2 ?_)))
    refine h3.st5 (Nat.le_refl 2) fun w4 h4 M4 => ⟨M4, ?_⟩
    refine h4.at_.ld 5 0 rfl rfl (h4.at_.ld 5 0 rfl rfl ?_)
    have hnx : nextM S cmp y.n p t = (((0, 0), false, p.1.e), p, t) := by unfold nextM; rw [if_pos hov]
    have := hK w4 F; rw [hnx] at this
    exact this ⟨⟨lo, rl, h4.drop ((List.sublist_cons_self _ _).trans (List.sublist_cons_self _ _)), htree⟩, hwin⟩
  · have hnx : nextM S cmp y.n p t = if (qM S cmp y.n p t).1 ≠ 0 then (((0, 0), false, (qM S cmp y.n p t).1), (qM S cmp y.n p t).2)
      else if y.n = 0 ∨ getB (qM S cmp y.n p t).2.1.1.sm (qM S cmp y.n p t).2.1.1.win = false then (((0, 0), false, 0), ({ (qM S cmp y.n p t).2.1.1 with ov := true, e := 0 }, (qM S cmp y.n p t).2.1.2), (qM S cmp y.n p t).2.2)
      else ((getT (qM S cmp y.n p t).2.1.1.hd (qM S cmp y.n p t).2.1.1.win, true, 0), (qM S cmp y.n p t).2) := by
      conv => lhs; unfold nextM
      rw [if_neg (by rw [hov]; decide)]
    have hbad : ∀ (e : Int) (s' : MS) (l' : List (Option Nat)) (t' : σ) (F' : Nat → Prop) (y' : Ly) (rl' : List (Nat × List Value)) (lo' : Sl) (w' : World), qM S cmp y.n p t = (e, (s', l'), t') → e ≠ 0 → y' = { y with lo := lo' } → s'.ov = true → MI S w0 D y' s' ((b4, zT) :: (b2, zT) :: (rl' ++ r)) t' F' w' →
        Go.Vw.ld w' (.int .i64) b4 0 fun n29 => Go.Vw.ld w' (.int .i64) b4 1 fun n30 => Go.Vw.st w' b2 0 [.int .i64 n29, .int .i64 n30] fun w_31 => Go.Vw.ld w_31 (.int .i64) b2 0 fun n32 => Go.Vw.ld w_31 (.int .i64) b2 1 fun n33 => K n32 n33 false e w_31 := by
      rintro e s' l' t' F' y' rl' lo' w' hq he rfl hov' h'
      refine next_err h' (K := fun a b w => K a b false e w) fun w4 h4 => ?_
      have := hK w4 F'; rw [hnx, hq, if_pos he] at this
      exact this ⟨⟨lo', rl', h4, fun _ ho => by rw [hov'] at ho; cases ho⟩, fun _ ho => by rw [hov'] at ho; cases ho⟩
    refine dr_some (h2.at_.ld 0 p.1.bg rfl rfl ?_)
    refine join0 (fun w' => ∃ (lo' : Sl) (bl : Nat) (s' : MS) (l' : List (Option Nat)) (t' : σ) (F' : Nat → Prop), MI S w0 D { y with lo := lo' } s' ((b4, zT) :: (b2, zT) :: (bl, EL.cells l') :: r) t' F' w' ∧ Tree { y with lo := lo' } l' [(bl, EL.cells l')] ∧ qM S cmp y.n p t = (0, (s', l'), t') ∧ (0 < y.n → s'.win < y.n) ∧ s'.bg = true) (fun k hk => ?_) ?_
    · refine ifK_intro (fun hbg => ?_) (fun hbg => ?_)
      · have hbg : p.1.bg = false := by simpa using hbg
        have hq : qM S cmp y.n p t = beginM S cmp y.n p.1 t := by unfold qM; rw [if_neg (by rw [hbg]; decide)]
        obtain ⟨k1, k2, k3, k4⟩ := beginM_keep (S := S) (t := t) (cmp := cmp) (n := y.n) (s := p.1)
        have hy' : Of S { y with lo := lo } := ⟨hy.n, hy.p, hy.len, hy.cap, hy.v⟩
        refine begin_ok (y := { y with lo := lo }) hy' hc hn h2 (fun w3 F3 he h3 => ?_) (fun w3 F3 lo3 rl3 he h3 ht3 => ?_)
        · refine ifK_t (by simpa using he) ?_
          exact hbad _ _ _ _ F3 _ rl lo w3 (hq.trans (Prod.ext rfl (Prod.ext (Prod.ext rfl rfl) rfl))) he rfl (k3 he).1 h3
        · refine ifK_f rfl (hk _ ?_)
          obtain ⟨bl, hrl, e1, e2, e3⟩ := ht3
          subst hrl
          refine ⟨lo3, bl, _, _, _, F3, (h3.perm (r' := (b4, zT) :: (b2, zT) :: (bl, EL.cells (beginM S cmp y.n p.1 t).2.1.2) :: (rl ++ r)) ?_).drop ?_, ⟨bl, rfl, e1, e2, e3⟩, hq.trans (Prod.ext he rfl), fun hn0 => k4 he (hw0 hbg).1 hn0, k1⟩
          · exact (List.Perm.cons _ (List.Perm.swap _ _ _)).trans (List.Perm.swap _ _ _)
          · exact .cons_cons _ (.cons_cons _ (.cons_cons _ (List.sublist_append_right _ _)))
      · have hbg : p.1.bg = true := by simpa using hbg
        have hov' : p.1.ov = false := hov
        have hw := hwin hbg hov'
        obtain ⟨bl, hrl, e1, e2, e3⟩ := htree hbg hov'
        subst hrl
        have hy' : Of S { y with lo := lo } := ⟨hy.n, hy.p, hy.len, hy.cap, hy.v⟩
        obtain ⟨a1, a2, a3, a4⟩ := asksM_keep (S := S) (t := t) (cmp := cmp) (s := p.1) (i := p.1.win)
        refine dr_some (h2.at_.ld 0 (k := .int .i64) (p.1.win : Int) rfl rfl ?_)
        refine asks_ok (y := { y with lo := lo }) hy' hc h2 hw fun w3 F3 h3 _ => ?_
        refine ifK_intro (fun he => ?_) (fun he => ?_)
        · have he' : (asksM S cmp p.1 t p.1.win).1 ≠ 0 := by simpa using he
          have hq : qM S cmp y.n p t = ((asksM S cmp p.1 t p.1.win).1, ((asksM S cmp p.1 t p.1.win).2.1, p.2), (asksM S cmp p.1 t p.1.win).2.2) := by unfold qM; rw [if_pos hbg, if_pos he']
          exact hbad _ _ _ _ F3 _ [(bl, EL.cells p.2)] lo w3 hq he' rfl (a4 he').1 h3
        · have he' : (asksM S cmp p.1 t p.1.win).1 = 0 := by simpa using he
          have hq : qM S cmp y.n p t = (0, playsM cmp y.n (asksM S cmp p.1 t p.1.win).2.1 p.2 (asksM S cmp p.1 t p.1.win).2.1.win, (asksM S cmp p.1 t p.1.win).2.2) := by unfold qM; rw [if_pos hbg, if_neg (by simpa using he')]
          refine dr_some (h3.at_.ld 0 (k := .int .i64) ((asksM S cmp p.1 t p.1.win).2.1.win : Int) rfl rfl ?_)
          have h4 := h3.perm (r' := (bl, EL.cells p.2) :: (b4, zT) :: (b2, zT) :: r) ((List.Perm.swap _ _ _).trans (List.Perm.cons _ (List.Perm.swap _ _ _)))
          have hw' : (asksM S cmp p.1 t p.1.win).2.1.win < y.n := by rw [a2]; exact hw
          refine plays_ok (y := { y with lo := lo }) hy' hc e1 hn e2 (by simp; omega) (by simp; omega) e3 h4 hw' fun w5 h5 hl5 hv5 => hk _ ?_
          refine ⟨lo, bl, _, _, _, F3, h5.perm ((List.Perm.cons _ (List.Perm.swap _ _ _)).trans (List.Perm.swap _ _ _)), ⟨bl, rfl, e1, hl5, hv5⟩, hq, fun _ => playsM_win hw' e3 (by rw [e2]; simp; omega) hw', ?_⟩
          exact playsM_keep.1.trans (a1.trans hbg)
    · rintro w3 ⟨lo3, bl, s3, l3, t3, F3, h3, ht3, hq, hw3, hbg3⟩
      rw [hq, if_neg (by simp)] at hnx
      refine join1 (a := .bool) (fun b w' => MI S w0 D { y with lo := lo3 } s3 ((b4, zT) :: (b2, zT) :: (bl, EL.cells l3) :: r) t3 F3 w' ∧ (b = true ↔ (y.n = 0 ∨ getB s3.sm s3.win = false))) (fun k hk => ?_) ?_
      · refine ⟨fun _ => False, ?_⟩
        have h4 := h3.drew
        refine dr_some (h4.at_.ldD 0 y.fr rfl rfl id ?_)
        refine ifK_intro (fun h0 => hk _ _ ⟨h4, ?_⟩) (fun h0 => ?_)
        · rw [hy.len] at h0; simp at h0; simp [h0]
        · have hn0 : 0 < y.n := by rw [hy.len] at h0; simp at h0; omega
          refine dr_some (h4.at_.ldD 0 _ rfl rfl id ?_)
          refine dr_some (h4.at_.ldD 0 (k := .int .i64) (s3.win : Int) rfl rfl id ?_)
          have hw := hw3 hn0
          refine ix_some rfl (by omega) (show (s3.win : Int) < (y.n : Nat) by omega) (ldD_cell _ id (at_some (y := { y with lo := lo3 }) h4.at_ h4.ok hw) (hk _ _ ⟨h4, ?_⟩))
          have hn1 : y.n ≠ 0 := by omega
          cases hg : getB s3.sm s3.win <;> simp [hn1]
      · rintro b w4 ⟨h4, hb⟩
        refine ifK_intro (fun ht => ?_) (fun ht => ?_)
        · rw [if_pos (hb.1 ht)] at hnx
          refine ⟨fun k => k = y.b ∨ k = b2, ?_⟩
          have h5 := h4.drew
          have hne : ¬ (b4 = y.b ∨ b4 = b2) := fun h => h.elim (h5.at_.ne (i := 4) (j := 0) rfl rfl (by decide)) (h5.at_.ne (i := 4) (j := 5) rfl rfl (by decide))
          refine h5.at_.ldD 4 0 rfl rfl hne (h5.at_.ldD 4 0 rfl rfl hne ?_)
          refine ends_ok h5 0 fun w6 h6 M6 => ⟨M6.mono fun _ _ h => .inl h, ?_⟩
          refine h6.st5 (Nat.le_refl 2) fun w7 h7 M7 => ⟨M6.trans M7 (fun _ _ h => .inl h) (fun _ _ h => .inr h), ?_⟩
          refine h7.at_.ld 5 0 rfl rfl (h7.at_.ld 5 0 rfl rfl ?_)
          have := hK w7 F3; rw [hnx] at this
          exact this ⟨⟨lo3, [(bl, EL.cells l3)], h7.drop ((List.sublist_cons_self _ _).trans (List.sublist_cons_self _ _)), fun _ ho => by cases ho⟩, fun _ ho => by cases ho⟩
        · have hnb : ¬ (y.n = 0 ∨ getB s3.sm s3.win = false) := fun h => by rw [hb.2 h] at ht; cases ht
          rw [if_neg hnb] at hnx
          have hn0 : 0 < y.n := by omega
          have hw := hw3 hn0
          refine ⟨fun k => k = b2, ?_⟩
          have h5 := h4.drew
          have n1 : ¬ y.b = b2 := h5.at_.ne (i := 0) (j := 5) rfl rfl (by decide)
          have n2 : ¬ y.bh = b2 := h5.at_.ne (i := 2) (j := 5) rfl rfl (by decide)
          refine dr_some (h5.at_.ldD 0 _ rfl rfl n1 ?_)
          refine dr_some (h5.at_.ldD 0 (k := .int .i64) (s3.win : Int) rfl rfl n1 ?_)
          refine ix_some rfl (by omega) (show (s3.win : Int) < (y.n : Nat) by omega) (ldD_cell _ n2 (at_head0 (y := { y with lo := lo3 }) h5.at_ h5.ok hw) (ldD_cell _ n2 (at_head1 (y := { y with lo := lo3 }) h5.at_ h5.ok hw) ?_))
          refine h5.st5 (Nat.le_refl 2) fun w6 h6 M6 => ⟨M6, ?_⟩
          refine h6.at_.ld 5 (k := .int .i64) (getT s3.hd s3.win).1 rfl rfl (h6.at_.ld 5 (k := .int .i64) (getT s3.hd s3.win).2 rfl rfl ?_)
          have := hK w6 F3; rw [hnx] at this
          exact this ⟨⟨lo3, [(bl, EL.cells l3)], h6.drop ((List.sublist_cons_self _ _).trans (List.sublist_cons_self _ _)), fun _ _ => ht3⟩, fun _ _ => hw⟩
end
end Go.Proofs.Ytfhojgammfkabaa

/- The tree of losers, told plainly: who is at its top is ahead of all. -/
namespace Go.Proofs.Ytfhojgammfkabaa

/-- q lies in the part of the tree below p -/
def Sub (p q : Nat) : Prop := ∃ k, q / 2 ^ k = p
theorem Sub.refl (p : Nat) : Sub p p := ⟨0, by simp⟩
theorem Sub.le {p q : Nat} (h : Sub p q) : p ≤ q := by obtain ⟨k, rfl⟩ := h; exact Nat.div_le_self _ _
theorem Sub.up {p q : Nat} (h : Sub p q) : Sub (p / 2) q := by
  obtain ⟨k, rfl⟩ := h; exact ⟨k + 1, by rw [Nat.pow_succ, Nat.div_div_eq_div_mul]⟩
/-- one is below the other -/
theorem sub_cmp {p p' q : Nat} (h : Sub p q) (h' : Sub p' q) : Sub p p' ∨ Sub p' p := by
  obtain ⟨a, rfl⟩ := h
  obtain ⟨b, rfl⟩ := h'
  rcases Nat.le_total a b with hab | hab
  · right; refine ⟨b - a, ?_⟩
    rw [Nat.div_div_eq_div_mul, ← Nat.pow_add]; congr 2; omega
  · left; refine ⟨a - b, ?_⟩
    rw [Nat.div_div_eq_div_mul, ← Nat.pow_add]; congr 2; omega
theorem Sub.eq_or {p q : Nat} (h : Sub p q) : q = p ∨ Sub p (q / 2) := by
  obtain ⟨k, rfl⟩ := h
  cases k with
  | zero => left; simp
  | succ k => right; exact ⟨k, by rw [Nat.div_div_eq_div_mul, Nat.pow_succ, Nat.mul_comm]⟩
theorem Sub.trans {p q r : Nat} (h : Sub p q) (h' : Sub q r) : Sub p r := by
  obtain ⟨a, rfl⟩ := h
  obtain ⟨b, rfl⟩ := h'
  exact ⟨b + a, by rw [Nat.div_div_eq_div_mul, Nat.pow_add]⟩
/-- two children have nothing in common -/
theorem sub_sib {p q : Nat} (hp : 0 < p) (h : Sub (2 * p) q) (h' : Sub (2 * p + 1) q) : False := by
  rcases sub_cmp h h' with h | h
  · rcases h.eq_or with h | h
    · omega
    · have := h.le; omega
  · have := h.le; omega
theorem sub_child {p q : Nat} (h : Sub p q) (hne : q ≠ p) : Sub (2 * p) q ∨ Sub (2 * p + 1) q := by
  obtain ⟨k, hk⟩ := h
  cases k with
  | zero => simp at hk; exact absurd hk hne
  | succ k =>
    have h2 : q / 2 ^ k / 2 = p := by rw [Nat.div_div_eq_div_mul, ← Nat.pow_succ]; exact hk
    have : q / 2 ^ k = 2 * p ∨ q / 2 ^ k = 2 * p + 1 := by omega
    rcases this with h | h
    · exact .inl ⟨k, h⟩
    · exact .inr ⟨k, h⟩
/-- the champion of a part of the tree -/
inductive Ch (n : Nat) (A : Nat → Nat → Bool) (l : Nat → Option Nat) : Nat → Nat → Prop
  | leaf {p : Nat} : n ≤ p → p < 2 * n → Ch n A l p (p - n)
  | left {p c d : Nat} : 0 < p → p < n → Ch n A l (2 * p) c → Ch n A l (2 * p + 1) d → l p = some d → A d c = false → Ch n A l p c
  | right {p c d : Nat} : 0 < p → p < n → Ch n A l (2 * p) c → Ch n A l (2 * p + 1) d → l p = some c → A c d = false → Ch n A l p d
/-- it is one of those below -/
theorem Ch.sub {n : Nat} {A : Nat → Nat → Bool} {l : Nat → Option Nat} {p c : Nat} (h : Ch n A l p c) : c < n ∧ Sub p (c + n) := by
  induction h with
  | leaf h1 h2 =>
    rename_i p
    refine ⟨by omega, ?_⟩
    have : p - n + n = p := by omega
    rw [this]; exact Sub.refl _
  | left h1 h2 k1 k2 h3 h4 ih1 ih2 =>
    rename_i p c d
    refine ⟨ih1.1, ?_⟩
    have := ih1.2.up
    have e : 2 * p / 2 = p := by omega
    rw [e] at this; exact this
  | right h1 h2 k1 k2 h3 h4 ih1 ih2 =>
    rename_i p c d
    refine ⟨ih2.1, ?_⟩
    have := ih2.2.up
    have e : (2 * p + 1) / 2 = p := by omega
    rw [e] at this; exact this
/-- it depends on what lies below alone -/
theorem Ch.congr {n : Nat} {A A' : Nat → Nat → Bool} {l l' : Nat → Option Nat} {p c : Nat} (h : Ch n A l p c) (hl : ∀ q, Sub p q → q < n → l' q = l q) (hA : ∀ i j, Sub p (i + n) → Sub p (j + n) → A' i j = A i j) : Ch n A' l' p c := by
  induction h with
  | leaf h1 h2 => exact .leaf h1 h2
  | left h1 h2 k1 k2 h3 h4 ih1 ih2 =>
    rename_i p c d
    have e1 : ∀ {q}, Sub (2 * p) q → Sub p q := fun h => by have := h.up; have e : 2 * p / 2 = p := by omega
                                                            rw [e] at this; exact this
    have e2 : ∀ {q}, Sub (2 * p + 1) q → Sub p q := fun h => by have := h.up; have e : (2 * p + 1) / 2 = p := by omega
                                                                rw [e] at this; exact this
    exact .left h1 h2 (ih1 (fun q hq => hl q (e1 hq)) fun i j hi hj => hA i j (e1 hi) (e1 hj)) (ih2 (fun q hq => hl q (e2 hq)) fun i j hi hj => hA i j (e2 hi) (e2 hj)) ((hl p (Sub.refl _) h2).trans h3) ((hA _ _ (e2 k2.sub.2) (e1 k1.sub.2)).trans h4)
  | right h1 h2 k1 k2 h3 h4 ih1 ih2 =>
    rename_i p c d
    have e1 : ∀ {q}, Sub (2 * p) q → Sub p q := fun h => by have := h.up; have e : 2 * p / 2 = p := by omega
                                                            rw [e] at this; exact this
    have e2 : ∀ {q}, Sub (2 * p + 1) q → Sub p q := fun h => by have := h.up; have e : (2 * p + 1) / 2 = p := by omega
                                                                rw [e] at this; exact this
    exact .right h1 h2 (ih1 (fun q hq => hl q (e1 hq)) fun i j hi hj => hA i j (e1 hi) (e1 hj)) (ih2 (fun q hq => hl q (e2 hq)) fun i j hi hj => hA i j (e2 hi) (e2 hj)) ((hl p (Sub.refl _) h2).trans h3) ((hA _ _ (e1 k1.sub.2) (e2 k2.sub.2)).trans h4)
/-- nobody below is ahead of the champion -/
theorem Ch.best {n : Nat} {A : Nat → Nat → Bool} (hirr : ∀ i, A i i = false) (htr : ∀ i j k, A i j = false → A j k = false → A i k = false) {l : Nat → Option Nat} {p c : Nat} (h : Ch n A l p c) : ∀ i, i < n → Sub p (i + n) → A i c = false := by
  induction h with
  | leaf h1 h2 =>
    rename_i p
    intro i hi hs
    obtain ⟨k, hk⟩ := hs
    cases k with
    | zero => simp at hk; have : i = p - n := by omega
              rw [this]; exact hirr _
    | succ k =>
      have : (i + n) / 2 ^ (k + 1) ≤ (i + n) / 2 := by
        rw [Nat.pow_succ, Nat.mul_comm, ← Nat.div_div_eq_div_mul]; exact Nat.div_le_self _ _
      omega
  | left h1 h2 k1 k2 h3 h4 ih1 ih2 =>
    intro i hi hs
    rcases sub_child hs (by omega) with hs | hs
    · exact ih1 i hi hs
    · exact htr _ _ _ (ih2 i hi hs) h4
  | right h1 h2 k1 k2 h3 h4 ih1 ih2 =>
    intro i hi hs
    rcases sub_child hs (by omega) with hs | hs
    · exact htr _ _ _ (ih1 i hi hs) h4
    · exact ih2 i hi hs
theorem sub_one {q : Nat} (hq : 0 < q) : Sub 1 q := by
  induction q using Nat.strongRecOn with
  | _ q ih =>
    by_cases h : q = 1
    · subst h; exact Sub.refl _
    · obtain ⟨k, hk⟩ := ih (q / 2) (by omega) (by omega)
      exact ⟨k + 1, by rw [Nat.pow_succ, Nat.mul_comm, ← Nat.div_div_eq_div_mul]; exact hk⟩
/-- all below p have played -/
def Cpl (n : Nat) (Dn : Nat → Prop) (p : Nat) : Prop := ∀ i, i < n → Sub p (i + n) → Dn i
def sib (q : Nat) : Nat := if q % 2 = 0 then q + 1 else q - 1
/-- the tree where these have played -/
structure Inv (n : Nat) (A : Nat → Nat → Bool) (l : Nat → Option Nat) (Dn : Nat → Prop) : Prop where
  no : ∀ p, 0 < p → p < n → ¬ Cpl n Dn (2 * p) → ¬ Cpl n Dn (2 * p + 1) → l p = none
  one : ∀ q, 2 ≤ q → q < 2 * n → Cpl n Dn q → ¬ Cpl n Dn (sib q) → ∃ c, Ch n A l q c ∧ l (q / 2) = some c
  top : (∀ i, i < n → Dn i) → 0 < n → ∃ c, Ch n A l 1 c
/-- one step up, as a function -/
def up (A : Nat → Nat → Bool) (l : Nat → Option Nat) (i a : Nat) : (Nat → Option Nat) × Option Nat :=
  if h : a = 0 then (l, some i) else
    match l a with
    | none => (fun q => if q = a then some i else l q, none)
    | some o => if A o i then up A (fun q => if q = a then some i else l q) o (a / 2) else up A l i (a / 2)
termination_by a
decreasing_by all_goals omega

section
variable {n : Nat} {A : Nat → Nat → Bool} {l : Nat → Option Nat} {Dn : Nat → Prop}
theorem sib_half {r : Nat} (h : 2 ≤ r) : sib r / 2 = r / 2 := by unfold sib; split <;> omega
theorem sib_sib (r : Nat) : sib (sib r) = r := by unfold sib; split <;> (split <;> omega)
theorem sib_ge {r : Nat} (h : 2 ≤ r) : 2 ≤ sib r := by unfold sib; split <;> omega
theorem sib_lt {r : Nat} (h : r < 2 * n) : sib r < 2 * n := by unfold sib; split <;> omega
theorem sib_cases (r : Nat) : (r = 2 * (r / 2) ∧ sib r = 2 * (r / 2) + 1) ∨ (r = 2 * (r / 2) + 1 ∧ sib r = 2 * (r / 2)) := by unfold sib; split <;> omega
theorem sub_sib' {r x : Nat} (h2 : 2 ≤ r) (h : Sub r x) (h' : Sub (sib r) x) : False := by
  rcases sib_cases r with ⟨a, b⟩ | ⟨a, b⟩
  · rw [a] at h; rw [b] at h'; exact sub_sib (by omega) h h'
  · rw [a] at h; rw [b] at h'; exact sub_sib (by omega) h' h
theorem cpl_child {a : Nat} (h1 : Cpl n Dn (2 * a)) (h2 : Cpl n Dn (2 * a + 1)) (ha : a < n) : Cpl n Dn a := fun i hi hs => by
  rcases sub_child hs (by omega) with h | h
  · exact h1 i hi h
  · exact h2 i hi h
theorem Cpl.down {a r : Nat} (h : Cpl n Dn a) (hs : Sub a r) : Cpl n Dn r := fun i hi hr => h i hi (hs.trans hr)
/-- a part of the tree that does not hold source i -/
theorem cpl_same {i r : Nat} (hr : ¬ Sub r (i + n)) : Cpl n (fun j => Dn j ∨ j = i) r ↔ Cpl n Dn r := by
  constructor
  · intro h j hj hs
    rcases h j hj hs with h | h
    · exact h
    · subst h; exact absurd hs hr
  · intro h j hj hs; exact .inl (h j hj hs)
def setF (l : Nat → Option Nat) (a c : Nat) : Nat → Option Nat := fun q => if q = a then some c else l q
theorem setF_same (l : Nat → Option Nat) (a c : Nat) : setF l a c a = some c := by simp [setF]
theorem setF_ne (l : Nat → Option Nat) {a c q : Nat} (h : q ≠ a) : setF l a c q = l q := by simp [setF, h]
theorem Ch.setF {p c a d : Nat} (h : Ch n A l p c) (ha : ¬ Sub p a) : Ch n A (setF l a d) p c :=
  h.congr (fun q hq _ => setF_ne l (fun e => ha (e ▸ hq))) fun _ _ _ _ => rfl
/-- the champion of the part below a, by its two halves -/
theorem ch_join {q a c o : Nat} (ha : a = q / 2) (h2 : 2 ≤ q) (hq : q < 2 * n) (hc : Ch n A l q c) (ho : Ch n A l (sib q) o) : (l a = some o → A o c = false → Ch n A l a c) ∧ (l a = some c → A c o = false → Ch n A l a o) := by
  subst ha
  rcases sib_cases q with ⟨e1, e2⟩ | ⟨e1, e2⟩
  · rw [e1] at hc; rw [e2] at ho
    exact ⟨fun h1 h3 => .left (by omega) (by omega) hc ho h1 h3, fun h1 h3 => .right (by omega) (by omega) hc ho h1 h3⟩
  · rw [e1] at hc; rw [e2] at ho
    exact ⟨fun h1 h3 => .right (by omega) (by omega) ho hc h1 h3, fun h1 h3 => .left (by omega) (by omega) ho hc h1 h3⟩
/-- what holds while source i goes up and stands at q -/
structure Way (n : Nat) (A : Nat → Nat → Bool) (l : Nat → Option Nat) (Dn : Nat → Prop) (i q c : Nat) : Prop where
  q1 : 1 ≤ q
  qn : q < 2 * n
  lf : Sub q (i + n)
  ch : Ch n A l q c
  cpl : Cpl n (fun j => Dn j ∨ j = i) q
  path : ∀ r, 2 ≤ r → Sub r q → (Cpl n Dn (sib r) → ∃ d, Ch n A l (sib r) d ∧ l (r / 2) = some d) ∧ (¬ Cpl n Dn (sib r) → l (r / 2) = none)
  no : ∀ p, 0 < p → p < n → (∀ r, 2 ≤ r → Sub r q → r / 2 ≠ p) → ¬ Cpl n (fun j => Dn j ∨ j = i) (2 * p) → ¬ Cpl n (fun j => Dn j ∨ j = i) (2 * p + 1) → l p = none
  one : ∀ p, 2 ≤ p → p < 2 * n → (∀ r, 2 ≤ r → Sub r q → r / 2 ≠ p / 2) → Cpl n (fun j => Dn j ∨ j = i) p → ¬ Cpl n (fun j => Dn j ∨ j = i) (sib p) → ∃ c, Ch n A l p c ∧ l (p / 2) = some c
theorem half_le_of_sub {r q : Nat} (h : Sub r q) : r / 2 ≤ q / 2 := by have := h.le; omega
theorem Way.go (has : ∀ i j, A i j = true → A j i = false) : ∀ (q : Nat) (l : Nat → Option Nat) (i c : Nat), Way n A l Dn i q c →
    Inv n A (up A l c (q / 2)).1 (fun j => Dn j ∨ j = i) ∧ (∀ w, (up A l c (q / 2)).2 = some w → Ch n A (up A l c (q / 2)).1 1 w) ∧ ((up A l c (q / 2)).2 = none → ¬ ∀ j, j < n → (Dn j ∨ j = i)) := by
  intro q
  induction q using Nat.strongRecOn with
  | _ q ih =>
    intro l i c h
    by_cases hq1 : q = 1
    · subst hq1
      have hup : up A l c (1 / 2) = (l, some c) := by rw [up]; rfl
      rw [hup]
      refine ⟨⟨fun p hp hpn => h.no p hp hpn fun r hr hs => by have := hs.le; omega, fun p hp hpn => h.one p hp hpn fun r hr hs => by have := hs.le; omega, fun _ _ => ⟨c, h.ch⟩⟩, fun w hw => by cases hw; exact h.ch, fun hn => by cases hn⟩
    · have hq2 : 2 ≤ q := by have := h.q1; omega
      have hqn := h.qn
      have hsq : ¬ Sub (sib q) (i + n) := fun hs => sub_sib' hq2 h.lf hs
      have ha0 : q / 2 ≠ 0 := by omega
      have hanc : ∀ {r}, Sub r (q / 2) → Sub r q := fun {r} hr => hr.trans ⟨1, by simp⟩
      have hnot : ¬ Sub q (q / 2) := fun hs => by have := hs.le; omega
      have hnots : ¬ Sub (sib q) (q / 2) := fun hs => by have h1 := hs.le; have h2 := sib_half hq2; have h3 := sib_ge hq2; omega
      obtain ⟨hp1, hp2⟩ := h.path q hq2 (Sub.refl _)
      -- siblings of the path above do not hold the parent
      have hsibq : ∀ r, 2 ≤ r → Sub r (q / 2) → ¬ Sub (sib r) (q / 2) := fun r hr hs hs' => sub_sib' hr hs hs'
      have hsibi : ∀ r, 2 ≤ r → Sub r q → (Cpl n (fun j => Dn j ∨ j = i) (sib r) ↔ Cpl n Dn (sib r)) := fun r hr hs => cpl_same fun hs' => sub_sib' hr (hs.trans h.lf) hs'
      by_cases hcs : Cpl n Dn (sib q)
      · obtain ⟨o, hco, hlo⟩ := hp1 hcs
        have hcsib : Cpl n (fun j => Dn j ∨ j = i) (sib q) := (hsibi q hq2 (Sub.refl _)).2 hcs
        have hcpl : Cpl n (fun j => Dn j ∨ j = i) (q / 2) := by
          rcases sib_cases q with ⟨e1, e2⟩ | ⟨e1, e2⟩
          · exact cpl_child (e1 ▸ h.cpl) (e2 ▸ hcsib) (by omega)
          · exact cpl_child (e2 ▸ hcsib) (e1 ▸ h.cpl) (by omega)
        -- on, from the parent
        have next : ∀ (l' : Nat → Option Nat) (c' : Nat), Ch n A l' (q / 2) c' → (∀ x, x ≠ q / 2 → l' x = l x) → Way n A l' Dn i (q / 2) c' := by
          intro l' c' hch hl'
          have hcg : ∀ {p c}, Ch n A l p c → ¬ Sub p (q / 2) → Ch n A l' p c := fun {p c} hc hns => hc.congr (fun x hx _ => hl' x fun e => hns (e ▸ hx)) fun _ _ _ _ => rfl
          refine ⟨by omega, by omega, ?_, hch, hcpl, ?_, ?_, ?_⟩
          · exact (show Sub (q / 2) q from ⟨1, by simp⟩).trans h.lf
          · intro r hr hs
            obtain ⟨p1, p2⟩ := h.path r hr (hanc hs)
            have hne : r / 2 ≠ q / 2 := by have := hs.le; omega
            refine ⟨fun hc => ?_, fun hc => by rw [hl' _ hne]; exact p2 hc⟩
            obtain ⟨d, hd, hld⟩ := p1 hc
            exact ⟨d, hcg hd (hsibq r hr hs), by rw [hl' _ hne]; exact hld⟩
          · intro p hp hpn hpath n1 n2
            by_cases hpa : p = q / 2
            · subst hpa
              rcases sib_cases q with ⟨e1, e2⟩ | ⟨e1, e2⟩
              · rw [← e1] at n1; exact absurd h.cpl n1
              · rw [← e1] at n2; exact absurd h.cpl n2
            · rw [hl' _ hpa]
              refine h.no p hp hpn (fun r hr hs e => ?_) n1 n2
              rcases hs.eq_or with e' | hs'
              · subst e'; exact hpa e.symm
              · exact hpath r hr hs' e
          · intro p hp hpn hpath c1 c2
            by_cases hpa : p / 2 = q / 2
            · exfalso
              apply c2
              have : p = q ∨ p = sib q := by rcases sib_cases q with ⟨e1, e2⟩ | ⟨e1, e2⟩ <;> omega
              rcases this with e | e
              · subst e; exact hcsib
              · subst e; rw [sib_sib]; exact h.cpl
            · obtain ⟨d, hd, hld⟩ := h.one p hp hpn (fun r hr hs e => by
                rcases hs.eq_or with e' | hs'
                · subst e'; exact hpa e.symm
                · exact hpath r hr hs' e) c1 c2
              refine ⟨d, hcg hd fun hs => ?_, by rw [hl' _ hpa]; exact hld⟩
              exact hpath p hp hs rfl
        have hstep : up A l c (q / 2) = if A o c then up A (setF l (q / 2) c) o (q / 2 / 2) else up A l c (q / 2 / 2) := by
          rw [up, dif_neg ha0, hlo]; rfl
        rw [hstep]
        by_cases hA : A o c = true
        · rw [if_pos hA]
          refine ih (q / 2) (by omega) _ i o (next _ _ ?_ fun x hx => setF_ne l hx)
          exact (ch_join (l := setF l (q / 2) c) rfl hq2 hqn (h.ch.setF hnot) (hco.setF hnots)).2 (setF_same ..) (has _ _ hA)
        · rw [if_neg hA]
          refine ih (q / 2) (by omega) _ i c (next _ _ ?_ fun x hx => rfl)
          exact (ch_join rfl hq2 hqn h.ch hco).1 hlo (by simpa using hA)
      · have hln := hp2 hcs
        have hstep : up A l c (q / 2) = (setF l (q / 2) c, none) := by
          rw [up, dif_neg ha0, hln]; rfl
        rw [hstep]
        have hncs : ¬ Cpl n (fun j => Dn j ∨ j = i) (sib q) := fun hc => hcs ((hsibi q hq2 (Sub.refl _)).1 hc)
        have hup : ∀ r, Sub r q → r ≠ q → ¬ Cpl n (fun j => Dn j ∨ j = i) r := by
          intro r hs hne hc
          rcases hs.eq_or with e | hs'
          · exact hne e.symm
          · refine hncs (hc.down (hs'.trans ⟨1, ?_⟩))
            rw [Nat.pow_one, sib_half hq2]
        show Inv n A (setF l (q / 2) c) _ ∧ (∀ w, (none : Option Nat) = some w → Ch n A (setF l (q / 2) c) 1 w) ∧ ((none : Option Nat) = none → _)
        refine ⟨⟨?_, ?_, ?_⟩, (fun w hw => by cases hw), fun _ hall => hncs fun j hj _ => hall j hj⟩
        · intro p hp hpn n1 n2
          by_cases hpath : ∃ r, 2 ≤ r ∧ Sub r q ∧ r / 2 = p
          · obtain ⟨r, hr, hs, rfl⟩ := hpath
            rcases hs.eq_or with e | hs'
            · subst e
              rcases sib_cases q with ⟨e1, e2⟩ | ⟨e1, e2⟩
              · rw [← e1] at n1; exact absurd h.cpl n1
              · rw [← e1] at n2; exact absurd h.cpl n2
            · have hne : r / 2 ≠ q / 2 := by have := hs'.le; omega
              rw [setF_ne l hne]
              refine (h.path r hr hs).2 fun hc => ?_
              have hc' := (hsibi r hr hs).2 hc
              rcases sib_cases r with ⟨e1, e2⟩ | ⟨e1, e2⟩
              · rw [e2] at hc'; exact n2 hc'
              · rw [e2] at hc'; exact n1 hc'
          · have hpath' : ∀ r, 2 ≤ r → Sub r q → r / 2 ≠ p := fun r hr hs e => hpath ⟨r, hr, hs, e⟩
            rw [setF_ne l fun e => hpath' q hq2 (Sub.refl _) e.symm]
            exact h.no p hp hpn hpath' n1 n2
        · intro p hp hpn c1 c2
          by_cases hpath : ∃ r, 2 ≤ r ∧ Sub r q ∧ r / 2 = p / 2
          · obtain ⟨r, hr, hs, he⟩ := hpath
            have hpr : p = r ∨ p = sib r := by rcases sib_cases r with ⟨e1, e2⟩ | ⟨e1, e2⟩ <;> omega
            rcases hpr with e | e
            · subst e
              by_cases hpq : p = q
              · subst hpq; exact ⟨c, h.ch.setF hnot, setF_same ..⟩
              · exact absurd c1 (hup p hs hpq)
            · subst e
              rcases hs.eq_or with e | hs'
              · subst e; exact absurd c1 hncs
              · have hne : sib r / 2 ≠ q / 2 := by rw [sib_half hr]; have := hs'.le; omega
                obtain ⟨d, hd, hld⟩ := (h.path r hr hs).1 ((hsibi r hr hs).1 c1)
                exact ⟨d, hd.setF (hsibq r hr hs'), by rw [setF_ne l hne, sib_half hr]; exact hld⟩
          · have hpath' : ∀ r, 2 ≤ r → Sub r q → r / 2 ≠ p / 2 := fun r hr hs e => hpath ⟨r, hr, hs, e⟩
            obtain ⟨d, hd, hld⟩ := h.one p hp hpn hpath' c1 c2
            refine ⟨d, hd.setF fun hs => hpath' p hp (hanc hs) rfl, ?_⟩
            rw [setF_ne l fun e => hpath' q hq2 (Sub.refl _) e.symm]; exact hld
        · intro hall _; exact absurd (fun j hj _ => hall j hj) hncs
/-- **a source that has not played yet plays** -/
theorem Inv.plays (has : ∀ i j, A i j = true → A j i = false) (h : Inv n A l Dn) {i : Nat} (hi : i < n) (hd : ¬ Dn i) :
    Inv n A (up A l i ((i + n) / 2)).1 (fun j => Dn j ∨ j = i) ∧ (∀ w, (up A l i ((i + n) / 2)).2 = some w → Ch n A (up A l i ((i + n) / 2)).1 1 w) ∧ ((up A l i ((i + n) / 2)).2 = none → ¬ ∀ j, j < n → (Dn j ∨ j = i)) := by
  have hleaf : ∀ j, j < n → Sub (i + n) (j + n) → j = i := fun j hj hs => by
    rcases hs.eq_or with e | hs
    · omega
    · have := hs.le; omega
  have hnc : ∀ r, Sub r (i + n) → ¬ Cpl n Dn r := fun r hs hc => hd (hc i hi hs)
  refine Way.go has (i + n) l i i ⟨by omega, by omega, Sub.refl _, ?_, fun j hj hs => .inr (hleaf j hj hs), ?_, ?_, ?_⟩
  · have := Ch.leaf (A := A) (l := l) (n := n) (p := i + n) (by omega) (by omega)
    have e : i + n - n = i := by omega
    rw [e] at this; exact this
  · intro r hr hs
    have hrn : r < 2 * n := by have := hs.le; omega
    refine ⟨fun hc => ?_, fun hc => ?_⟩
    · have := h.one (sib r) (sib_ge hr) (sib_lt hrn) hc (by rw [sib_sib]; exact hnc r hs)
      rw [sib_half hr] at this; exact this
    · refine h.no (r / 2) (by omega) (by omega) ?_ ?_
      · rcases sib_cases r with ⟨e1, e2⟩ | ⟨e1, e2⟩
        · rw [← e1]; exact hnc r hs
        · rw [← e2]; exact hc
      · rcases sib_cases r with ⟨e1, e2⟩ | ⟨e1, e2⟩
        · rw [← e2]; exact hc
        · rw [← e1]; exact hnc r hs
  · intro p hp hpn hpath n1 n2
    exact h.no p hp hpn (fun hc => n1 fun j hj hs => .inl (hc j hj hs)) (fun hc => n2 fun j hj hs => .inl (hc j hj hs))
  · intro p hp hpn hpath c1 c2
    have hns : ¬ Sub p (i + n) := fun hs => hpath p hp hs rfl
    exact h.one p hp hpn ((cpl_same hns).1 c1) fun hc => c2 fun j hj hs => .inl (hc j hj hs)
end
end Go.Proofs.Ytfhojgammfkabaa
