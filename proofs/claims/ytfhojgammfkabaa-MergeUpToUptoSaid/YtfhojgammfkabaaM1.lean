/- A merge of things: its sources; ends, asks. -/
import Derived.Test.YtfhojgammfkabaaM0
namespace Go.Proofs.Ytfhojgammfkabaa
open Go.Vw

/-- what sources are: a state of them all, where it lies, what one answers when it is asked -/
structure Srcs (σ : Type) where
  n : Nat
  v : Nat → Value
  ask : σ → Nat → (Thing × Bool × Int) × σ
  I : σ → (Nat → Prop) → World → Prop
  base : Nat
  keep : ∀ s F w w' D, I s F w → Mod D w w' → (∀ b, F b → ¬ D b) → (∀ b, b < base → ¬ D b) → I s F w'
  lt : ∀ s F w b, I s F w → F b → b < w.heap.size
  call : ∀ s F w i (K : Int → Int → Bool → Int → World → Prop), i < n → I s F w → (∀ w' F', I (ask s i).2 F' w' → Mod F w w' → (∀ b, F' b → F b ∨ w.heap.size ≤ b) → K (ask s i).1.1.1 (ask s i).1.1.2 (ask s i).1.2.1 (ask s i).1.2.2 w') →
    callV Try.prog (v i) [] w (.tup [.agg [.int .i64, .int .i64], .leaf .bool, .leaf (.int .i64)]) K
/-- what lies below 'base' is never written -/
def Srcs.G {σ : Type} (S : Srcs σ) (F : Nat → Prop) : Nat → Prop := fun b => F b ∨ b < S.base
theorem Srcs.keepG {σ : Type} (S : Srcs σ) {s : σ} {F D : Nat → Prop} {w w' : World} (h : S.I s F w) (hM : Mod D w w') (hd : ∀ b, S.G F b → ¬ D b) : S.I s F w' :=
  S.keep s F w w' D h hM (fun b hb => hd b (.inl hb)) fun b hb => hd b (.inr hb)
/-- the sources of this merge are these -/
structure Of {σ : Type} (S : Srcs σ) (y : Ly) : Prop where
  n : S.n = y.n
  p : y.fr.p = some (y.bf, 0)
  len : y.fr.len = y.n
  cap : y.n ≤ y.fr.cap
  v : ∀ i, i < y.n → y.cf[i]? = some (S.v i)
/-- none of these blocks -/
structure Off (F : Nat → Prop) (y : Ly) (r : List (Nat × List Value)) : Prop where
  b : ¬ F y.b
  bf : ¬ F y.bf
  bh : ¬ F y.bh
  bs : ¬ F y.bs
  r : ∀ p ∈ r, ¬ F p.1
theorem Off.all {F : Nat → Prop} {y : Ly} {r : List (Nat × List Value)} (h : Off F y r) (s : MS) : ∀ p ∈ y.m s r, ¬ F p.1 := by
  intro p hp
  simp only [Ly.m, List.mem_cons] at hp
  rcases hp with rfl | rfl | rfl | rfl | hp
  · exact h.b
  · exact h.bf
  · exact h.bh
  · exact h.bs
  · exact h.r p hp
theorem Off.of {F : Nat → Prop} {y : Ly} {r : List (Nat × List Value)} {s : MS} (h : ∀ p ∈ y.m s r, ¬ F p.1) : Off F y r :=
  ⟨h _ (by simp [Ly.m]; exact .inl rfl), h (y.bf, y.cf) (by simp [Ly.m]), h (y.bh, ET.cells s.hd) (by simp [Ly.m]), h (y.bs, EB.cells s.sm) (by simp [Ly.m]), fun p hp => h p (by simp [Ly.m, hp])⟩
section
variable {σ : Type} {S : Srcs σ} {w0 w : World} {D : Nat → Prop} {y : Ly} {s : MS} {r : List (Nat × List Value)} {t : σ} {F : Nat → Prop}
/-- all that is known while a merge works -/
structure MI (S : Srcs σ) (w0 : World) (D : Nat → Prop) (y : Ly) (s : MS) (r : List (Nat × List Value)) (t : σ) (F : Nat → Prop) (w : World) : Prop where
  at_ : At w0 D (y.m s r) w
  ok : Ok y s
  src : S.I t F w
  off : Off (S.G F) y r
  dom : ∀ b, b < w0.heap.size → F b → D b
theorem At.lt {m : List (Nat × List Value)} (hA : At w0 D m w) : ∀ p ∈ m, p.1 < w.heap.size := fun p hp => (hA.own p hp).lt
/-- the sources have worked -/
theorem MI.srcs (h : MI S w0 D y s r t F w) {t' : σ} {F' : Nat → Prop} {w' : World} (hI : S.I t' F' w') (hM : Mod F w w') (hF : ∀ b, F' b → F b ∨ w.heap.size ≤ b) : MI S w0 D y s r t' F' w' := by
  refine ⟨h.at_.keep hM h.dom (fun p hp hf => h.off.all s p hp (.inl hf)), h.ok, hI, Off.of (s := s) fun p hp hf => ?_, fun b hb hf => ?_⟩
  · rcases hf with hf | hf
    · rcases hF _ hf with hf | hf
      · exact h.off.all s p hp (.inl hf)
      · exact Nat.lt_irrefl _ (Nat.lt_of_lt_of_le (At.lt h.at_ p hp) hf)
    · exact h.off.all s p hp (.inr hf)
  · rcases hF _ hf with hf | hf
    · exact h.dom b hb hf
    · exact absurd hb (Nat.not_lt.2 (Nat.le_trans h.at_.mod.size hf))
/-- known blocks have turned, or something that touches nothing has been done -/
theorem MI.own (h : MI S w0 D y s r t F w) {s' : MS} {r' : List (Nat × List Value)} {w' : World} (hA : At w0 D (y.m s' r') w') (hok : Ok y s') {E : Nat → Prop} (hM : Mod E w w') (hE : ∀ b, S.G F b → ¬ E b) (hr : ∀ p ∈ r', ¬ S.G F p.1) : MI S w0 D y s' r' t F w' :=
  ⟨hA, hok, S.keepG h.src hM hE, ⟨h.off.b, h.off.bf, h.off.bh, h.off.bs, hr⟩, h.dom⟩
theorem MI.calm (h : MI S w0 D y s r t F w) {w' : World} (hM : Mod (fun _ => False) w w') : MI S w0 D y s r t F w' := h.own (h.at_.keep0 hM fun _ => id) h.ok hM (fun _ _ => id) h.off.r
theorem MI.drew (h : MI S w0 D y s r t F w) : MI S w0 D y s r t F w.drew := h.calm (Mod.drew _ _)
/-- a new block -/
theorem MI.al (h : MI S w0 D y s r t F w) {e : TypeId} {cs : List LV} {K : Nat → World → Prop}
    (hK : ∀ b w', MI S w0 D y s ((b, cs.map LV.toV) :: r) t F w' → Mod (fun _ => False) w w' → w.heap.size ≤ b → K b w') : Go.Vw.al w e cs K := by
  have hA := h.at_.al (cs.map LV.toV) e
  have hp : (y.m s ((w.heap.size, cs.map LV.toV) :: r)).Perm (y.m s r ++ [(w.heap.size, cs.map LV.toV)]) := by
    simp only [Ly.m, List.cons_append]
    refine .cons _ (.cons _ (.cons _ (.cons _ ?_)))
    exact (List.perm_append_comm (l₁ := [_]) (l₂ := r))
  refine hK _ _ (h.own ⟨hA.mod, fun p hpp => hA.own p (hp.subset hpp), (hp.map Prod.fst).nodup_iff.2 hA.nodup, fun p hpp => hA.wr p (hp.subset hpp)⟩ h.ok (Mod.alloc _ _ _) (fun _ _ => id) ?_) (Mod.alloc _ _ _) (Nat.le_refl _)
  intro p hpp hf
  rcases List.mem_cons.1 hpp with rfl | hpp
  · rcases hf with hf | hf
    · exact Nat.lt_irrefl _ (S.lt _ _ _ _ h.src hf)
    · exact h.off.b (.inr (Nat.lt_trans (At.lt h.at_ _ (by simp [Ly.m] : (y.b, y.st s) ∈ y.m s r)) hf))
  · exact h.off.r p hpp hf
theorem MI.drop (h : MI S w0 D y s r t F w) {r' : List (Nat × List Value)} (hs : r'.Sublist r) : MI S w0 D y s r' t F w :=
  ⟨h.at_.sub (.cons_cons _ (.cons_cons _ (.cons_cons _ (.cons_cons _ hs)))), h.ok, h.src, ⟨h.off.b, h.off.bf, h.off.bh, h.off.bs, fun p hp => h.off.r p (hs.subset hp)⟩, h.dom⟩
/-- a known block is written -/
theorem MI.st (h : MI S w0 D y s r t F w) (i : Nat) {b o : Nat} {c : List Value} {vs : List LV} {s' : MS} {r' : List (Nat × List Value)} {K : World → Prop} (hi : (y.m s r)[i]? = some (b, c)) (hl : o + vs.length ≤ c.length)
    (he : (y.m s r).set i (b, spl c o (vs.map LV.toV)) = y.m s' r') (hok : Ok y s') (hr : ∀ p ∈ r', ∃ q ∈ r, q.1 = p.1)
    (hK : ∀ w', MI S w0 D y s' r' t F w' → Mod (fun k => k = b) w w' → K w') : Go.Vw.st w b o vs K :=
  h.at_.st i hi hl fun w' hA hM => hK w' (h.own (he ▸ hA) hok hM (fun x hx e => by subst e; exact h.off.all s _ (List.mem_of_getElem? hi) hx) fun p hp => by
    obtain ⟨q, hq, hqp⟩ := hr p hp; rw [← hqp]; exact h.off.r q hq) hM
theorem MI.st0 (h : MI S w0 D y s r t F w) {o : Nat} {vs : List LV} (s' : MS) {K : World → Prop} (hl : o + vs.length ≤ 9) (he : spl (y.st s) o (vs.map LV.toV) = y.st s') (hh : s'.hd = s.hd) (hs : s'.sm = s.sm)
    (hK : ∀ w', MI S w0 D y s' r t F w' → Mod (fun k => k = y.b) w w' → K w') : Go.Vw.st w y.b o vs K :=
  h.st 0 (s' := s') rfl (by simpa [Ly.st] using hl) (by simp [Ly.m, he, hh, hs]) ⟨by rw [hh]; exact h.ok.hd, by rw [hs]; exact h.ok.sm⟩ (fun p hp => ⟨p, hp, rfl⟩) hK
theorem MI.st4 {b : Nat} {c : List Value} (h : MI S w0 D y s ((b, c) :: r) t F w) {o : Nat} {vs : List LV} {K : World → Prop} (hl : o + vs.length ≤ c.length)
    (hK : ∀ w', MI S w0 D y s ((b, spl c o (vs.map LV.toV)) :: r) t F w' → Mod (fun k => k = b) w w' → K w') : Go.Vw.st w b o vs K :=
  h.st 4 (s' := s) rfl hl rfl h.ok (fun p hp => by
    rcases List.mem_cons.1 hp with rfl | hp
    · exact ⟨(b, c), by simp, rfl⟩
    · exact ⟨p, by simp [hp], rfl⟩) hK
theorem MI.setHead (h : MI S w0 D y s r t F w) {i : Nat} (hi : i < y.n) (x : Thing) {K : World → Prop} (hK : ∀ w', MI S w0 D y { s with hd := s.hd.set i x } r t F w' → Mod (fun k => k = y.bh) w w' → K w') :
    Go.Vw.st w y.bh (0 + (i : Int).toNat * 2) [.int .i64 x.1, .int .i64 x.2] K := by
  have hlt : i < s.hd.length := by rw [h.ok.hd]; exact hi
  have hset := ET.cells_set s.hd i 0 [.int .i64 x.1, .int .i64 x.2] (getT s.hd i) x [] (getT_at hlt) (Nat.le_refl 2) rfl
  simp only [List.append_nil, Nat.add_zero] at hset
  refine h.st 2 (s' := { s with hd := s.hd.set i x }) rfl ?_ ?_ ⟨by simp [h.ok.hd], h.ok.sm⟩ (fun p hp => ⟨p, hp, rfl⟩) hK
  · rw [ET.cells_length]; simp [ET]; omega
  · rw [Nat.zero_add]
    show _ = y.m { s with hd := s.hd.set i x } r
    simp only [Ly.m, List.set_cons_succ, List.set_cons_zero]
    have hset' : spl (ET.cells s.hd) ((i : Int).toNat * 2) (List.map LV.toV [.int .i64 x.1, .int .i64 x.2]) = ET.cells (s.hd.set i x) := hset
    rw [hset']; rfl
theorem MI.setSome (h : MI S w0 D y s r t F w) {i : Nat} (hi : i < y.n) (x : Bool) {K : World → Prop} (hK : ∀ w', MI S w0 D y { s with sm := s.sm.set i x } r t F w' → Mod (fun k => k = y.bs) w w' → K w') :
    Go.Vw.st w y.bs (0 + (i : Int).toNat * 1) [.bool x] K := by
  have hlt : i < s.sm.length := by rw [h.ok.sm]; exact hi
  have hset := EB.cells_set s.sm i 0 [.bool x] (getB s.sm i) x [] (getB_at hlt) (Nat.le_refl 1) rfl
  simp only [List.append_nil, Nat.add_zero] at hset
  refine h.st 3 (s' := { s with sm := s.sm.set i x }) rfl ?_ ?_ ⟨h.ok.hd, by simp [h.ok.sm]⟩ (fun p hp => ⟨p, hp, rfl⟩) hK
  · rw [EB.cells_length]; simp [EB]; omega
  · rw [Nat.zero_add]
    show _ = y.m { s with sm := s.sm.set i x } r
    simp only [Ly.m, List.set_cons_succ, List.set_cons_zero]
    have hset' : spl (EB.cells s.sm) ((i : Int).toNat * 1) (List.map LV.toV [.bool x]) = EB.cells (s.sm.set i x) := hset
    rw [hset']; rfl

theorem ends_ok (h : MI S w0 D y s r t F w) (e : Int) {K : Int → World → Prop} (hK : ∀ w', MI S w0 D y { s with ov := true, e := e } r t F w' → Mod (fun k => k = y.b) w w' → K e w') :
    callK Try.prog 43 [.leaf (.ptr (some (y.b, 0))), .leaf (.int .i64 e)] w (.one (.leaf (.int .i64))) K := by
  refine go_merge_Merge_ends_winnowref11_Thing _ _ _ _ ?_
  unfold S_merge_Merge_ends_winnowref11_Thing
  refine dr_some (h.st0 { s with ov := true } (by decide) rfl rfl rfl fun w1 h1 M1 => ?_)
  refine dr_some (h1.st0 { s with ov := true, e := e } (Nat.le_refl 9) rfl rfl rfl fun w2 h2 M2 => ?_)
  exact hK _ h2 (M1.trans M2 (fun _ _ h => h) (fun _ _ h => h))

/-- a source is asked -/
def asksM (S : Srcs σ) (cmp : Thing → Thing → Int) (s : MS) (t : σ) (i : Nat) : Int × MS × σ :=
  if (S.ask t i).1.2.2 ≠ 0 then ((S.ask t i).1.2.2, { s with ov := true, e := (S.ask t i).1.2.2 }, (S.ask t i).2)
  else if (S.ask t i).1.2.1 && getB s.sm i && decide (cmp (S.ask t i).1.1 (getT s.hd i) < 0) then (61, { s with ov := true, e := 61 }, (S.ask t i).2)
  else (0, { s with hd := s.hd.set i (S.ask t i).1.1, sm := s.sm.set i (S.ask t i).1.2.1 }, (S.ask t i).2)
theorem asksM_fst_ov {cmp : Thing → Thing → Int} {i : Nat} : (asksM S cmp s t i).2.2 = (S.ask t i).2 := by unfold asksM; split <;> (try split) <;> rfl
theorem asks_ok (hy : Of S y) {cmp : Thing → Thing → Int} (hc : CmpOk y.cv cmp) (h : MI S w0 D y s r t F w) {i : Nat} (hi : i < y.n) {K : Int → World → Prop}
    (hK : ∀ w' F', MI S w0 D y (asksM S cmp s t i).2.1 r (asksM S cmp s t i).2.2 F' w' → (∀ b, F' b → F b ∨ w.heap.size ≤ b) → K (asksM S cmp s t i).1 w') :
    callK Try.prog 41 [.leaf (.ptr (some (y.b, 0))), .leaf (.int .i64 i)] w (.one (.leaf (.int .i64))) K := by
  refine go_merge_Merge_asks_winnowref11_Thing _ _ _ _ ?_
  unfold S_merge_Merge_asks_winnowref11_Thing
  have hin : (0 : Int) ≤ i ∧ (i : Int) < (y.n : Nat) := ⟨by omega, by omega⟩
  refine dr_some (h.at_.ld 0 _ rfl rfl ?_)
  refine ix_some rfl hin.1 hin.2 (ld_cell _ (at_some h.at_ h.ok hi) ?_)
  refine dr_some (h.at_.ld 0 _ rfl rfl ?_)
  refine ix_some hy.p hin.1 (by rw [hy.len]; exact hin.2) ?_ (by rw [hy.len]; exact hy.cap)
  refine h.at_.ld 1 (S.v i) rfl ?_ ?_
  · have : 0 + (i : Int).toNat * 1 = i := by simp
    rw [this]; exact hy.v i hi
  refine S.call t F w i _ (by rw [hy.n]; exact hi) h.src fun w1 F1 hI1 M1 hF1 => ?_
  have h1 := h.srcs hI1 M1 hF1
  refine h1.al fun b20 w2 h2 M2 hb20 => ?_
  refine h2.st4 (Nat.le_refl 2) fun w3 h3 M3 => ?_
  have h3 : MI S w0 D y s ((b20, [.int .i64 (S.ask t i).1.1.1, .int .i64 (S.ask t i).1.1.2]) :: r) (S.ask t i).2 F1 w3 := h3
  have fin : ∀ (k : Int) (s' : MS) (r' : List (Nat × List Value)) w', MI S w0 D y s' r' (S.ask t i).2 F1 w' → r.Sublist r' → k = (asksM S cmp s t i).1 → s' = (asksM S cmp s t i).2.1 → K k w' := by
    rintro k s' r' w' h' hs rfl rfl
    refine hK w' F1 ?_ hF1
    rw [asksM_fst_ov]; exact h'.drop hs
  refine ifK_intro (fun he => ?_) (fun he => ?_)
  · refine ends_ok h3 _ fun w4 h4 _ => fin _ _ _ _ h4 (List.sublist_cons_self _ _) ?_ ?_
    · unfold asksM; rw [if_pos (by simpa using he)]
    · unfold asksM; rw [if_pos (by simpa using he)]
  have he0 : ¬ ((S.ask t i).1.2.2 ≠ 0) := by simpa using he
  refine join1 (a := .bool) (fun b w' => MI S w0 D y s ((b20, [.int .i64 (S.ask t i).1.1.1, .int .i64 (S.ask t i).1.1.2]) :: r) (S.ask t i).2 F1 w' ∧ b = ((S.ask t i).1.2.1 && getB s.sm i && decide (cmp (S.ask t i).1.1 (getT s.hd i) < 0))) (fun k hk => ?_) ?_
  · refine ⟨fun _ => False, ?_⟩
    have h4 := h3.drew
    refine ifK_intro (fun hs1 => ifK_intro (fun hs2 => ?_) fun hs2 => hk _ _ ⟨h4, by rw [hs1, hs2]; rfl⟩) fun hs1 => hk _ _ ⟨h4, by rw [hs1]; rfl⟩
    refine dr_some (h4.at_.ldD 0 _ rfl rfl id ?_)
    refine h4.at_.ldD 4 _ rfl rfl id ?_
    refine h4.at_.ldD 4 _ rfl rfl id ?_
    refine dr_some (h4.at_.ldD 0 _ rfl rfl id ?_)
    refine ix_some rfl hin.1 hin.2 (ldD_cell _ id (at_head0 h4.at_ h4.ok hi) (ldD_cell _ id (at_head1 h4.at_ h4.ok hi) ?_))
    refine hc (S.ask t i).1.1 (getT s.hd i) _ _ fun w5 hM => ⟨hM, hk _ _ ⟨h4.calm hM, by rw [hs1, hs2]; rfl⟩⟩
  · rintro b w4 ⟨h4, rfl⟩
    refine ifK_intro (fun ho => ?_) (fun ho => ?_)
    · refine ends_ok h4 _ fun w5 h5 _ => fin _ _ _ _ h5 (List.sublist_cons_self _ _) ?_ ?_
      · unfold asksM; rw [if_neg he0, if_pos ho]
      · unfold asksM; rw [if_neg he0, if_pos ho]
    · refine ⟨fun k => k = y.bh ∨ k = y.bs, ?_⟩
      have h5 := h4.drew
      have nb : ¬ (y.b = y.bh ∨ y.b = y.bs) := fun h => h.elim (h5.at_.ne (i := 0) (j := 2) rfl rfl (by decide)) (h5.at_.ne (i := 0) (j := 3) rfl rfl (by decide))
      have nb20 : ¬ (b20 = y.bh ∨ b20 = y.bs) := fun h => h.elim (h5.at_.ne (i := 4) (j := 2) rfl rfl (by decide)) (h5.at_.ne (i := 4) (j := 3) rfl rfl (by decide))
      refine dr_some (h5.at_.ldD 0 _ rfl rfl nb ?_)
      refine dr_some (h5.at_.ldD 0 _ rfl rfl nb ?_)
      refine h5.at_.ldD 4 _ rfl rfl nb20 (h5.at_.ldD 4 _ rfl rfl nb20 ?_)
      refine ix_some rfl hin.1 hin.2 (h5.setHead hi (S.ask t i).1.1 fun w6 h6 M6 => ⟨M6.mono fun _ _ h => .inl h, ?_⟩)
      refine ix_some rfl hin.1 hin.2 (h6.setSome hi (S.ask t i).1.2.1 fun w7 h7 M7 => ⟨M6.trans M7 (fun _ _ h => .inl h) (fun _ _ h => .inr h), ?_⟩)
      refine fin _ _ _ _ h7 (List.sublist_cons_self _ _) ?_ ?_
      · unfold asksM; rw [if_neg he0, if_neg (by rw [ho]; decide)]
      · unfold asksM; rw [if_neg he0, if_neg (by rw [ho]; decide)]
end
end Go.Proofs.Ytfhojgammfkabaa
