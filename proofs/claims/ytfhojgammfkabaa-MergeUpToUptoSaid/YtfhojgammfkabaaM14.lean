/- A merge is run to its end. -/
import Derived.Test.YtfhojgammfkabaaM13
import Derived.Test.YtfhojgammfkabaaSRun
namespace Go.Proofs.Ytfhojgammfkabaa
open Go.Vw

theorem runF_len {n : Nat} {en : Nat → Int} : ∀ (k : Nat) (Q : Nat → List Thing), (runF n en k Q).1.length ≤ k
  | 0, Q => by simp [runF]
  | k + 1, Q => by
    rw [runF]
    split
    · simp
    · split
      · simp
      · split
        · split
          · simp
          · have := runF_len (n := n) (en := en) k
            simp; exact this _
        · split
          · simp
          · have := runF_len (n := n) (en := en) k
            simp; exact this _
theorem runM_len {n : Nat} {en : Nat → Int} {Q : Nat → List Thing} : (runM n en Q).1.length ≤ remQ Q n := by
  unfold runM
  split
  · simp
  · exact runF_len _ _
theorem Tell.bg0 {σ : Type} {S : Srcs σ} {en : Nat → Int} {St : σ → (Nat → Option (List Thing)) → Prop} {tot : Nat} {Fin : (Nat → Option (List Thing)) → Prop} {p : PM} {t : σ} {c : Nat} {out : List Thing} {err : Int} (h : Tell S en St tot Fin p t c out err) :
    p.1.bg = false → p.1.win = 0 ∧ p.1.ov = false := by
  intro hb
  cases h with
  | start h1 h2 h3 h4 => exact ⟨h4, h2⟩
  | mid h1 => rw [h1] at hb; cases hb
  | over h1 h2 => rw [h2] at hb; cases hb
/-- a merge of played sources, as it is when it has been made -/
theorem start_of {f : Feeds} (hf : f.Ok) {w w4 : World} {F : Nat → Prop} (hI : f.I (fun _ => zFS) F w) (hbase : f.base ≤ w.heap.size) {ps : List PA} (hps : ps = (List.range f.n).map fun i => some (f.fb i, 0)) {y : Ly}
    (hA : At w (fun _ => False) (y.m (s0 ps.length) []) w4) (hy : Made y cmpV (ps.map nextV)) :
    Of (f.src hf) y ∧ MF (f.src hf) w F y (s0 f.n, []) [] (fun _ => zFS) F w4 ∧ Rel f.n f.St (s0 f.n) (fun _ => zFS) f.L 0 f.L := by
  have hpl : ps.length = f.n := by rw [hps]; simp
  rw [hpl] at hA
  have hkey : ∀ p ∈ y.m (s0 f.n) [], w.heap.size ≤ p.1 := fun p hp => Nat.not_lt.1 fun hlt => hA.wr p hp hlt
  refine ⟨⟨by show f.n = _; rw [hy.n]; simp [hpl], hy.p, by rw [hy.len, hy.n], by rw [hy.n]; exact hy.cap, fun i hi => ?_⟩, ⟨⟨y.lo, [], ⟨hA.weaken fun _ _ h => h.elim, ?_, (f.src hf).keep _ _ _ _ _ hI hA.mod (fun _ _ => id) (fun _ _ => id), Off.of (s := s0 f.n) fun p hp hg => ?_, fun _ _ h => h⟩, fun h => by cases h⟩, fun h => by cases h⟩, ?_⟩
  · have hi' : i < ps.length := by rw [hy.n] at hi; simpa using hi
    rw [hy.cf i (by simpa using hi')]
    subst hps
    have hif : i < f.n := by simpa using hi'
    simp [hif]; rfl
  · exact ⟨by rw [hy.n]; simp [s0, hpl], by rw [hy.n]; simp [s0, hpl]⟩
  · have := hkey p hp
    rcases hg with hg | hg
    · have := (f.src hf).lt _ _ _ _ hI hg; omega
    · have : p.1 < f.base := hg
      omega
  · refine ⟨by simp [s0], by simp [s0], fun i => some (f.L i), fun i hi => ⟨Nat.zero_le _, rfl, rfl, rfl, rfl⟩, fun i hi => by omega, fun i _ hi => ⟨rfl, rfl, ?_⟩⟩
    simp [s0, getB, List.getElem?_replicate, hi]
theorem run_ok {f : Feeds} (hf : f.Ok) {w : World} {l : Sl} {F : Nat → Prop} (hr : RdS w EP l ((List.range f.n).map fun i => some (f.fb i, 0))) (hI : f.I (fun _ => zFS) F w) (hn : f.n ≤ 64) (htot : remQ f.L f.n ≤ 1048576) (hbase : f.base ≤ w.heap.size)
    {K : Sl → Int → Bool → World → Prop} (hK : ∀ out w', RdS w' ET out (runM f.n f.en f.L).1 → (∀ b, bk out b → w.heap.size ≤ b) → Mod F w w' → K out (runM f.n f.en f.L).2 true w') :
    callK Try.prog 19 [.leaf (.sl l)] w (.tup [.leaf .sl, .leaf (.int .i64), .leaf .bool]) K := by
  refine go_winnowlaw11_run _ _ _ ?_
  unfold S_winnowlaw11_run
  refine made_ok hr (by simpa using hn) fun w4 y hA hy => ?_
  obtain ⟨hof, hmf, hrel⟩ := start_of hf hI hbase rfl hA hy
  have M4 : Mod (fun _ => False) w w4 := hA.mod
  refine join1 (a := .bool) (fun b w' => b = false ∧ w' = w4) (fun k hk => ifK_f rfl (hk _ _ ⟨rfl, rfl⟩)) ?_
  rintro _ w5 ⟨rfl, hw5⟩
  rw [hw5]
  refine ifK_f rfl ?_
  have hr4 := hr.keep M4 fun _ _ => id
  have hI4 : f.I (fun _ => zFS) F w4 := hmf.src
  have hpart : ∀ i, i ≤ f.n → remQ f.L i ≤ remQ f.L f.n := fun i hi => by
    have : ∀ k, remQ f.L i ≤ remQ f.L (i + k) := fun k => by
      induction k with
      | zero => exact Nat.le_refl _
      | succ k ih => rw [← Nat.add_assoc, remQ]; omega
    have h := this (f.n - i)
    rwa [Nat.add_sub_cancel' hi] at h
  refine join1 (a := .int .i64) (fun x w' => x = (remQ f.L f.n : Nat) ∧ w' = w4) (fun k hk => ?_) ?_
  · refine loop2 (k1 := .int .i64) (k2 := .int .i64) (fun m x w' => ∃ i : Nat, x = i ∧ i ≤ f.n ∧ m = (remQ f.L i : Nat) ∧ w' = w4) (fun _ x _ => f.n - x.toNat) rfl rfl ⟨0, rfl, by omega, rfl, rfl⟩ ?_
    rintro m x w6 ⟨i, rfl, hi, rfl, hw6⟩
    rw [hw6]
    refine ifK_intro (fun hlt => ?_) (fun hlt => ?_)
    · have hlt' : i < f.n := by rw [hr4.len] at hlt; simpa using hlt
      have hp : ((List.range f.n).map fun i => (some (f.fb i, 0) : PA))[i]? = some (some (f.fb i, 0)) := by simp [hlt']
      refine hr4.ix rfl rfl hp fun b o _ hc => ld_cell (k := .ptr) (some (f.fb i, 0)) (hc 0 (by decide)) (dr_some ?_)
      refine ld_cell (k := .sl) (f.sl i) (((hI4.blk i hlt').cell 0).trans rfl) ?_
      have h1 : (f.sl i).len = (f.L i).length := (hI4.rd i hlt').len
      have h2 := hpart (i + 1) hlt'
      rw [remQ] at h2
      have e1 : w64 (((remQ f.L i : Nat) : Int) + ((f.sl i).len : Int)) = ((remQ f.L (i + 1) : Nat) : Int) := by rw [h1, w64_in (by omega) (by omega), remQ]; omega
      rw [e1, set_step (by omega)]
      exact ⟨⟨i + 1, rfl, hlt', rfl, rfl⟩, by simp; omega⟩
    · have hge : i = f.n := by rw [hr4.len] at hlt; simp at hlt; omega
      subst hge
      exact hk _ _ ⟨rfl, rfl⟩
  · rintro _ w6 ⟨rfl, hw6⟩
    rw [hw6]
    have hyn : y.n = f.n := hof.n.symm
    refine join0 (fun _ => False) (fun k hk => ?_) fun _ h => h.elim
    refine loop2 (k1 := .sl) (k2 := .int .i64) (fun out x w' => ∃ (i : Nat) (p : PM) (t : Nat → FS) (F' : Nat → Prop) (ro : List (Nat × List Value)) (l rest : List Thing), x = i ∧ MF (f.src hf) w F y p ro t F' w' ∧ VecE ro ET out l ∧ Tell (f.src hf) f.en f.St (remQ f.L f.n) (fun _ => True) p t i rest (runM f.n f.en f.L).2 ∧ l ++ rest = (runM f.n f.en f.L).1 ∧ l.length = i)
      (fun _ x _ => remQ f.L f.n + 1 - x.toNat) rfl rfl ⟨0, _, _, F, [], [], (runM f.n f.en f.L).1, rfl, hmf, VecE.nil _, .start rfl rfl rfl rfl hrel rfl rfl (fun _ _ => trivial), rfl, rfl⟩ ?_
    rintro out x w7 ⟨i, p, t, F', ro, l, rest, rfl, hm, hv, ht, hlr, hli⟩
    have hle : i ≤ remQ f.L f.n := by
      have := runM_len (n := f.n) (en := f.en) (Q := f.L)
      rw [← hlr, List.length_append] at this; omega
    refine ifK_t (by simp; omega) ?_
    refine next_ok hof (cmp := cmpT) (by rw [hy.cv]; exact compare_ok) (by omega) ht.bg0 hm fun w8 F8 hm8 => ?_
    obtain ⟨n1, n2⟩ := next_tell (f.lists hf) ht
    rw [hyn] at hm8 ⊢
    have hA8 := hm8.rest
    refine hA8.alK fun b31 w9 hb31 hA9 _ => ?_
    have hA9' : At w8 (Ks ro) ((b31, zT) :: ro) w9 := hA9.perm (List.perm_append_comm (l₁ := [_]))
    refine hA9'.st 0 rfl (Nat.le_refl 2) fun w10 hA10 _ => ?_
    have hA10' : At w8 (Ks ro) ((b31, [.int .i64 (nextM (f.src hf) cmpT f.n p t).1.1.1, .int .i64 (nextM (f.src hf) cmpT f.n p t).1.1.2]) :: ro) w10 := hA10
    cases hrest : rest with
    | nil =>
      obtain ⟨r1, r2, r3⟩ := n2 hrest
      have r1 : (nextM (f.src hf) cmpT f.n p t).1 = ((0, 0), false, (runM f.n f.en f.L).2) := r1
      have hm10 := hm8.law (hA10'.sub (List.sublist_cons_self _ _))
      rw [r1]
      refine ifK_t rfl ?_
      have hl : l = (runM f.n f.en f.L).1 := by rw [← hlr, hrest, List.append_nil]
      have hb := hm10.rest
      have hvec := hv.vec (w := w10) fun q hq => hb.own q hq
      rw [hl] at hvec
      refine hK out w10 hvec.rd (fun b hbk => ?_) hm10.at0
      obtain ⟨q, hq, e⟩ := hv.key hbk
      obtain ⟨lo, rl, h1, _⟩ := hm10.ex
      rw [← e]
      refine Nat.not_lt.1 fun hlt => ?_
      have hq' : q ∈ ({ y with lo := lo } : Ly).m (nextM (f.src hf) cmpT f.n p t).2.1.1 (rl ++ ro) := by simp [Ly.m, hq]
      have hF0 := h1.at_.wr q hq' hlt
      have : ∃ i, i < f.n ∧ q.1 = f.fb i := (hI.F _).1 hF0
      exact h1.off.all _ q hq' (.inl ((h1.src.F _).2 this))
    | cons x rest' =>
      obtain ⟨r1, r2, r3⟩ := n1 x rest' hrest
      have r1 : (nextM (f.src hf) cmpT f.n p t).1 = (x, true, 0) := r1
      rw [r1] at hA10' ⊢
      refine ifK_f rfl (hA10'.ld 0 (k := .int .i64) x.1 rfl rfl (hA10'.ld 0 (k := .int .i64) x.2 rfl rfl ?_))
      refine hA10'.alK fun b36 w11 hb36 hA11 _ => ?_
      have hA11' : At w8 (Ks ro) ([(b31, [.int .i64 x.1, .int .i64 x.2]), (b36, [.int .i64 x.1, .int .i64 x.2])] ++ ro) w11 :=
        hA11.perm (.cons _ (List.perm_append_comm (l₁ := [_])))
      have hx11 : RdS w11 ET ⟨some (b36, 0), 1, 1⟩ [x] := rd_one (hA11'.blk (i := 1) rfl)
      refine hA11'.app hv hx11 rfl rfl (by simp; omega) fun out' ro' w12 hA12 hv12 _ => ?_
      have hm12 := hm8.law (hA12.sub (List.sublist_append_right _ _))
      rw [set_step (by omega)]
      exact ⟨⟨i + 1, _, _, F8, ro', l ++ [x], rest', rfl, hm12, hv12, r2, by rw [← hlr, hrest]; simp, by simp [hli]⟩, by simp; omega⟩
end Go.Proofs.Ytfhojgammfkabaa
