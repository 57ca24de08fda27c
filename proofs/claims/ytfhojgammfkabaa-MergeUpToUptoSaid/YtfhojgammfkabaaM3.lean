/- A merge of things: begin. -/
import Derived.Test.YtfhojgammfkabaaM2
namespace Go.Proofs.Ytfhojgammfkabaa
open Go.Vw

section
variable {σ : Type} {S : Srcs σ} {w0 w : World} {D : Nat → Prop} {y : Ly} {s : MS} {r : List (Nat × List Value)} {t : σ} {F : Nat → Prop}
theorem MI.add (h : MI S w0 D y s r t F w) {w' : World} {b : Nat} {c : List Value} (hM : Mod (fun _ => False) w w') (hb : Blk w' b c) (hf : w.heap.size ≤ b) : MI S w0 D y s ((b, c) :: r) t F w' := by
  have h1 := h.calm hM
  have hA := h1.at_.add hb (fun p hp e => by have := At.lt h.at_ p hp; omega) (fun hlt => absurd hlt (by have := h.at_.mod.size; omega))
  have hp : (y.m s ((b, c) :: r)).Perm (y.m s r ++ [(b, c)]) := by
    simp only [Ly.m, List.cons_append]
    refine .cons _ (.cons _ (.cons _ (.cons _ ?_)))
    exact (List.perm_append_comm (l₁ := [_]) (l₂ := r))
  refine ⟨⟨hA.mod, fun p hpp => hA.own p (hp.subset hpp), (hp.map Prod.fst).nodup_iff.2 hA.nodup, fun p hpp => hA.wr p (hp.subset hpp)⟩, h1.ok, h1.src, ⟨h1.off.b, h1.off.bf, h1.off.bh, h1.off.bs, ?_⟩, h1.dom⟩
  intro p hpp hfp
  rcases List.mem_cons.1 hpp with rfl | hpp
  · rcases hfp with hfp | hfp
    · have := S.lt _ _ _ _ h.src hfp
      simp at this; omega
    · have := At.lt h.at_ _ (by simp [Ly.m] : (y.b, y.st s) ∈ y.m s r)
      exact h.off.b (.inr (by simp at this hfp ⊢; omega))
  · exact h1.off.r p hpp hfp
theorem MI.stLo (h : MI S w0 D y s r t F w) (l : Sl) {K : World → Prop} (hK : ∀ w', MI S w0 D { y with lo := l } s r t F w' → K w') : Go.Vw.st w y.b (0 + 4) [.sl l] K :=
  h.at_.st 0 rfl (show (5 : Nat) ≤ 9 by decide) fun w' hA hM => hK w' ⟨hA, ⟨h.ok.hd, h.ok.sm⟩, S.keepG h.src hM (fun x hx e => by subst e; exact h.off.b hx), ⟨h.off.b, h.off.bf, h.off.bh, h.off.bs, h.off.r⟩, h.dom⟩

def askAllM (S : Srcs σ) (cmp : Thing → Thing → Int) : Nat → MS → σ → Nat → Int × MS × σ
  | 0, s, t, _ => (0, s, t)
  | k + 1, s, t, i => if (asksM S cmp s t i).1 ≠ 0 then asksM S cmp s t i else askAllM S cmp k (asksM S cmp s t i).2.1 (asksM S cmp s t i).2.2 (i + 1)
def playAllM (cmp : Thing → Thing → Int) (n : Nat) : Nat → MS → List (Option Nat) → Nat → MS × List (Option Nat)
  | 0, s, l, _ => (s, l)
  | k + 1, s, l, i => playAllM cmp n k (playsM cmp n s l i).1 (playsM cmp n s l i).2 (i + 1)
def beginM (S : Srcs σ) (cmp : Thing → Thing → Int) (n : Nat) (s : MS) (t : σ) : Int × (MS × List (Option Nat)) × σ :=
  if (askAllM S cmp n { s with bg := true } t 0).1 ≠ 0 then ((askAllM S cmp n { s with bg := true } t 0).1, ((askAllM S cmp n { s with bg := true } t 0).2.1, []), (askAllM S cmp n { s with bg := true } t 0).2.2)
  else (0, playAllM cmp n n (askAllM S cmp n { s with bg := true } t 0).2.1 (List.replicate (max n 1) none) 0, (askAllM S cmp n { s with bg := true } t 0).2.2)
/-- the tree lies there -/
def Tree (y : Ly) (l : List (Option Nat)) (rl : List (Nat × List Value)) : Prop := ∃ bl, rl = [(bl, EL.cells l)] ∧ y.lo = ⟨some (bl, 0), max y.n 1, max y.n 1⟩ ∧ l.length = max y.n 1 ∧ ValidL y.n l
theorem begin_ok (hy : Of S y) {cmp : Thing → Thing → Int} (hc : CmpOk y.cv cmp) (hn : y.n ≤ 64) (h : MI S w0 D y s r t F w) {K : Int → World → Prop}
    (hK1 : ∀ w' F', (beginM S cmp y.n s t).1 ≠ 0 → MI S w0 D y (beginM S cmp y.n s t).2.1.1 r (beginM S cmp y.n s t).2.2 F' w' → K (beginM S cmp y.n s t).1 w')
    (hK2 : ∀ w' F' lo rl, (beginM S cmp y.n s t).1 = 0 → MI S w0 D { y with lo := lo } (beginM S cmp y.n s t).2.1.1 (rl ++ r) (beginM S cmp y.n s t).2.2 F' w' → Tree { y with lo := lo } (beginM S cmp y.n s t).2.1.2 rl → K 0 w') :
    callK Try.prog 40 [.leaf (.ptr (some (y.b, 0)))] w (.one (.leaf (.int .i64))) K := by
  refine go_merge_Merge_begin_winnowref11_Thing _ _ _ ?_
  unfold S_merge_Merge_begin_winnowref11_Thing
  refine dr_some (h.st0 { s with bg := true } (show (7 : Nat) ≤ 9 by decide) rfl rfl rfl fun w1 h1 _ => ?_)
  refine dr_some (h1.at_.ld 0 y.fr rfl rfl ?_)
  refine join0 (fun w' => ∃ s' t' F', MI S w0 D y s' r t' F' w' ∧ askAllM S cmp y.n { s with bg := true } t 0 = (0, s', t')) (fun k hk => ?_) ?_
  · refine loop1 (k := .int .i64) (fun x w' => ∃ (i : Nat) (s' : MS) (t' : σ) (F' : Nat → Prop), x = (i : Int) ∧ i ≤ y.n ∧ MI S w0 D y s' r t' F' w' ∧ askAllM S cmp (y.n - i) s' t' i = askAllM S cmp y.n { s with bg := true } t 0)
      (fun x _ => (y.n - x.toNat)) rfl ⟨0, _, t, F, rfl, by omega, h1, rfl⟩ ?_
    rintro x w2 ⟨i, s2, t2, F2, rfl, hi, h2, he2⟩
    refine ifK_intro (fun hlt => ?_) (fun hlt => ?_)
    · have hlt' : i < y.n := by rw [hy.len] at hlt; simpa using hlt
      have hsucc : y.n - i = (y.n - (i + 1)) + 1 := by omega
      rw [hsucc, askAllM] at he2
      refine asks_ok hy hc h2 hlt' fun w3 F3 h3 _ => ?_
      refine ifK_intro (fun he => ?_) (fun he => ?_)
      · have he' : (asksM S cmp s2 t2 i).1 ≠ 0 := by simpa using he
        rw [if_pos he'] at he2
        have hb : beginM S cmp y.n s t = ((asksM S cmp s2 t2 i).1, ((asksM S cmp s2 t2 i).2.1, []), (asksM S cmp s2 t2 i).2.2) := by
          unfold beginM; rw [← he2, if_pos he']
        have := hK1 w3 F3; rw [hb] at this; exact this he' h3
      · have he' : ¬ (asksM S cmp s2 t2 i).1 ≠ 0 := by simpa using he
        rw [if_neg he'] at he2
        have : w64 ((i : Int) + 1) = ((i + 1 : Nat) : Int) := by rw [w64_in (by omega) (by omega)]; omega
        rw [this]
        exact ⟨⟨i + 1, _, _, F3, rfl, by omega, h3, he2⟩, by simp; omega⟩
    · have hge : i = y.n := by rw [hy.len] at hlt; simp at hlt; omega
      subst hge
      refine hk _ ⟨s2, t2, F2, h2, ?_⟩
      rw [Nat.sub_self, askAllM] at he2; exact he2.symm
  · rintro w2 ⟨s2, t2, F2, h2, he2⟩
    have hb : beginM S cmp y.n s t = (0, playAllM cmp y.n y.n s2 (List.replicate (max y.n 1) none) 0, t2) := by
      unfold beginM; rw [he2]; simp
    refine dr_some (h2.at_.ld 0 y.fr rfl rfl ?_)
    have hmx : mxI (y.fr.len : Int) 1 = ((max y.n 1 : Nat) : Int) := by rw [hy.len]; unfold mxI; split <;> omega
    rw [hmx]
    refine Vec.mkK EL (some 0) (max y.n 1) rfl rfl (by omega) (by omega) fun w3 _ hb3 M3 => ?_
    have h3 := h2.add M3 hb3 (Nat.le_refl _)
    generalize hbl : w2.heap.size = bl at h3
    refine dr_some (h3.stLo _ fun w4 h4 => ?_)
    refine dr_some (h4.at_.ld 0 _ rfl rfl ?_)
    refine join0 (fun w' => MI S w0 D { y with lo := ⟨some (bl, 0), max y.n 1, max y.n 1⟩ } s2 ((bl, EL.cells (List.replicate (max y.n 1) none)) :: r) t2 F2 w') (fun k hk => ?_) ?_
    · refine loop1 (k := .int .i64) (fun x w' => ∃ (i : Nat) (l : List (Option Nat)), x = (i : Int) ∧ i ≤ max y.n 1 ∧ l.length = max y.n 1 ∧ (∀ j, j < i → getL l j = none) ∧ MI S w0 D { y with lo := ⟨some (bl, 0), max y.n 1, max y.n 1⟩ } s2 ((bl, EL.cells l) :: r) t2 F2 w')
        (fun x _ => (max y.n 1 - x.toNat)) rfl ⟨0, _, rfl, by omega, by simp, by omega, h4⟩ ?_
      rintro x w5 ⟨i, l, rfl, hi, hl, hnone, h5⟩
      refine ifK_intro (fun hlt => ?_) (fun hlt => ?_)
      · have hlt' : i < max y.n 1 := by simpa using hlt
        refine dr_some (h5.at_.ld 0 _ rfl rfl ?_)
        refine ix_some (o := 0) (b := bl) rfl (by omega) (by simpa using hlt) ?_
        refine h5.setL (x := none) (i := i) (by omega) fun w6 h6 _ => ?_
        have : w64 ((i : Int) + 1) = ((i + 1 : Nat) : Int) := by rw [w64_in (by omega) (by omega)]; omega
        rw [this]
        refine ⟨⟨i + 1, _, rfl, by omega, by simp [hl], fun j hj => ?_, h6⟩, by simp; omega⟩
        by_cases hji : j = i
        · subst hji; simp [getL, hl, hlt']
        · have := hnone j (by omega)
          simpa [getL, List.getElem?_set, Ne.symm hji] using this
      · have hge : i = max y.n 1 := by simp at hlt; omega
        have hall : l = List.replicate (max y.n 1) none := by
          refine List.eq_replicate_iff.2 ⟨hl, fun x hx => ?_⟩
          obtain ⟨j, hj⟩ := List.mem_iff_getElem?.1 hx
          have hjl := (List.getElem?_eq_some_iff.1 hj).1
          have := hnone j (by omega)
          simpa [getL, hj] using this
        subst hall
        exact hk _ h5
    · intro w5 h5
      refine dr_some (h5.at_.ld 0 y.fr rfl rfl ?_)
      refine join0 (fun w' => ∃ s' l', playAllM cmp y.n y.n s2 (List.replicate (max y.n 1) none) 0 = (s', l') ∧ l'.length = max y.n 1 ∧ ValidL y.n l' ∧ MI S w0 D { y with lo := ⟨some (bl, 0), max y.n 1, max y.n 1⟩ } s' ((bl, EL.cells l') :: r) t2 F2 w') (fun k hk => ?_) ?_
      · refine loop1 (k := .int .i64) (fun x w' => ∃ (i : Nat) (s' : MS) (l : List (Option Nat)), x = (i : Int) ∧ i ≤ y.n ∧ l.length = max y.n 1 ∧ ValidL y.n l ∧ playAllM cmp y.n (y.n - i) s' l i = playAllM cmp y.n y.n s2 (List.replicate (max y.n 1) none) 0 ∧ MI S w0 D { y with lo := ⟨some (bl, 0), max y.n 1, max y.n 1⟩ } s' ((bl, EL.cells l) :: r) t2 F2 w')
          (fun x _ => (y.n - x.toNat)) rfl ⟨0, _, _, rfl, by omega, by simp, fun k hk => by simp [List.mem_replicate] at hk, rfl, h5⟩ ?_
        rintro x w6 ⟨i, s6, l6, rfl, hi, hl6, hv6, he6, h6⟩
        refine ifK_intro (fun hlt => ?_) (fun hlt => ?_)
        · have hlt' : i < y.n := by rw [hy.len] at hlt; simpa using hlt
          have hy' : Of S { y with lo := ⟨some (bl, 0), max y.n 1, max y.n 1⟩ } := ⟨hy.n, hy.p, hy.len, hy.cap, hy.v⟩
          refine plays_ok (y := { y with lo := ⟨some (bl, 0), max y.n 1, max y.n 1⟩ }) hy' hc rfl hn hl6 (by simp; omega) (by omega) hv6 h6 hlt' fun w7 h7 hl7 hv7 => ?_
          have hsucc : y.n - i = (y.n - (i + 1)) + 1 := by omega
          rw [hsucc, playAllM] at he6
          have : w64 ((i : Int) + 1) = ((i + 1 : Nat) : Int) := by rw [w64_in (by omega) (by omega)]; omega
          rw [this]
          exact ⟨⟨i + 1, _, _, rfl, by omega, hl7, hv7, he6, h7⟩, by simp; omega⟩
        · have hge : i = y.n := by rw [hy.len] at hlt; simp at hlt; omega
          subst hge
          rw [Nat.sub_self, playAllM] at he6
          exact hk _ ⟨s6, l6, he6.symm, hl6, hv6, h6⟩
      · rintro w6 ⟨s6, l6, he6, hl6, hv6, h6⟩
        have := hK2 w6 F2 ⟨some (bl, 0), max y.n 1, max y.n 1⟩ [(bl, EL.cells l6)]
        rw [hb, he6] at this
        exact this rfl h6 ⟨bl, rfl, rfl, hl6, hv6⟩
end
end Go.Proofs.Ytfhojgammfkabaa
