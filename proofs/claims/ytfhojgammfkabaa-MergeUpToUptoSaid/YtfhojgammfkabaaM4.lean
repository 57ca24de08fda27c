/- A merge of things: Next. -/
import Derived.Test.YtfhojgammfkabaaM3
namespace Go.Proofs.Ytfhojgammfkabaa
open Go.Vw

section
variable {σ : Type} {S : Srcs σ} {w0 w : World} {D : Nat → Prop} {y : Ly} {r : List (Nat × List Value)} {t : σ} {F : Nat → Prop}
abbrev PM := MS × List (Option Nat)
/-- what is known of a merge between two calls -/
structure MF (S : Srcs σ) (w0 : World) (D : Nat → Prop) (y : Ly) (p : PM) (r : List (Nat × List Value)) (t : σ) (F : Nat → Prop) (w : World) : Prop where
  ex : ∃ lo rl, MI S w0 D { y with lo := lo } p.1 (rl ++ r) t F w ∧ (p.1.bg = true → p.1.ov = false → Tree { y with lo := lo } p.2 rl)
  win : p.1.bg = true → p.1.ov = false → p.1.win < y.n
/-- the next thing: what is done ahead of the answer -/
def qM (S : Srcs σ) (cmp : Thing → Thing → Int) (n : Nat) (p : PM) (t : σ) : Int × PM × σ :=
  if p.1.bg then
    if (asksM S cmp p.1 t p.1.win).1 ≠ 0 then ((asksM S cmp p.1 t p.1.win).1, ((asksM S cmp p.1 t p.1.win).2.1, p.2), (asksM S cmp p.1 t p.1.win).2.2)
    else (0, playsM cmp n (asksM S cmp p.1 t p.1.win).2.1 p.2 (asksM S cmp p.1 t p.1.win).2.1.win, (asksM S cmp p.1 t p.1.win).2.2)
  else beginM S cmp n p.1 t
/-- the next thing -/
def nextM (S : Srcs σ) (cmp : Thing → Thing → Int) (n : Nat) (p : PM) (t : σ) : (Thing × Bool × Int) × PM × σ :=
  if p.1.ov then (((0, 0), false, p.1.e), p, t)
  else if (qM S cmp n p t).1 ≠ 0 then (((0, 0), false, (qM S cmp n p t).1), (qM S cmp n p t).2)
  else if n = 0 ∨ getB (qM S cmp n p t).2.1.1.sm (qM S cmp n p t).2.1.1.win = false then (((0, 0), false, 0), ({ (qM S cmp n p t).2.1.1 with ov := true, e := 0 }, (qM S cmp n p t).2.1.2), (qM S cmp n p t).2.2)
  else ((getT (qM S cmp n p t).2.1.1.hd (qM S cmp n p t).2.1.1.win, true, 0), (qM S cmp n p t).2)
/-! small facts of the plain steps -/
theorem asksM_keep {cmp : Thing → Thing → Int} {s : MS} {i : Nat} : (asksM S cmp s t i).2.1.bg = s.bg ∧ (asksM S cmp s t i).2.1.win = s.win ∧ ((asksM S cmp s t i).1 = 0 → (asksM S cmp s t i).2.1.ov = s.ov ∧ (asksM S cmp s t i).2.1.e = s.e) ∧ ((asksM S cmp s t i).1 ≠ 0 → (asksM S cmp s t i).2.1.ov = true ∧ (asksM S cmp s t i).2.1.e = (asksM S cmp s t i).1) := by
  unfold asksM
  split
  · rename_i h; exact ⟨rfl, rfl, fun h' => absurd h' h, fun _ => ⟨rfl, rfl⟩⟩
  · split
    · exact ⟨rfl, rfl, fun h' => by simp at h', fun _ => ⟨rfl, rfl⟩⟩
    · exact ⟨rfl, rfl, fun _ => ⟨rfl, rfl⟩, fun h => absurd rfl h⟩
theorem playsL_win {cmp : Thing → Thing → Int} {s : MS} {n : Nat} : ∀ (a : Nat) (l : List (Option Nat)) (i : Nat), i < n → ValidL n l → a < l.length → ∀ j, (playsL cmp s l i a).2 = some j → j < n := by
  intro a
  induction a using Nat.strongRecOn with
  | _ a ih =>
    intro l i hi hv ha j hj
    rw [playsL] at hj
    split at hj
    · cases hj; exact hi
    · rename_i h0
      split at hj
      · cases hj
      · rename_i o ho
        split at hj
        · exact ih (a / 2) (by omega) _ _ (hv.get ha ho) (hv.set hi) (by simp; omega) j hj
        · exact ih (a / 2) (by omega) _ _ hi hv (by omega) j hj
theorem playsM_keep {cmp : Thing → Thing → Int} {n : Nat} {s : MS} {l : List (Option Nat)} {i : Nat} : (playsM cmp n s l i).1.bg = s.bg ∧ (playsM cmp n s l i).1.ov = s.ov ∧ (playsM cmp n s l i).1.e = s.e ∧ (playsM cmp n s l i).1.hd = s.hd ∧ (playsM cmp n s l i).1.sm = s.sm := by
  unfold playsM
  split <;> exact ⟨rfl, rfl, rfl, rfl, rfl⟩
theorem playsM_win {cmp : Thing → Thing → Int} {n : Nat} {s : MS} {l : List (Option Nat)} {i : Nat} (hi : i < n) (hv : ValidL n l) (hl : n ≤ l.length) (hw : s.win < n) : (playsM cmp n s l i).1.win < n := by
  unfold playsM
  split
  · rename_i l' j h; exact playsL_win ((i + n) / 2) l i hi hv (by omega) j (by rw [h])
  · exact hw
theorem askAllM_keep {cmp : Thing → Thing → Int} : ∀ (k : Nat) (s : MS) (t : σ) (i : Nat), (askAllM S cmp k s t i).2.1.bg = s.bg ∧ (askAllM S cmp k s t i).2.1.win = s.win ∧ ((askAllM S cmp k s t i).1 = 0 → (askAllM S cmp k s t i).2.1.ov = s.ov ∧ (askAllM S cmp k s t i).2.1.e = s.e) ∧ ((askAllM S cmp k s t i).1 ≠ 0 → (askAllM S cmp k s t i).2.1.ov = true ∧ (askAllM S cmp k s t i).2.1.e = (askAllM S cmp k s t i).1)
  | 0, s, t, i => ⟨rfl, rfl, fun _ => ⟨rfl, rfl⟩, fun h => absurd rfl h⟩
  | k + 1, s, t, i => by
    obtain ⟨a1, a2, a3, a4⟩ := asksM_keep (S := S) (t := t) (cmp := cmp) (s := s) (i := i)
    rw [askAllM]
    split
    · exact ⟨a1, a2, a3, a4⟩
    · rename_i h
      have h : (asksM S cmp s t i).1 = 0 := by simpa using h
      obtain ⟨b1, b2, b3, b4⟩ := askAllM_keep (cmp := cmp) k (asksM S cmp s t i).2.1 (asksM S cmp s t i).2.2 (i + 1)
      exact ⟨b1.trans a1, b2.trans a2, fun h' => ⟨(b3 h').1.trans (a3 h).1, (b3 h').2.trans (a3 h).2⟩, b4⟩
theorem playAllM_keep {cmp : Thing → Thing → Int} {n : Nat} : ∀ (k : Nat) (s : MS) (l : List (Option Nat)) (i : Nat), (playAllM cmp n k s l i).1.bg = s.bg ∧ (playAllM cmp n k s l i).1.ov = s.ov ∧ (playAllM cmp n k s l i).1.e = s.e ∧ (playAllM cmp n k s l i).1.hd = s.hd ∧ (playAllM cmp n k s l i).1.sm = s.sm
  | 0, s, l, i => ⟨rfl, rfl, rfl, rfl, rfl⟩
  | k + 1, s, l, i => by
    obtain ⟨a1, a2, a3, a4, a5⟩ := playsM_keep (cmp := cmp) (n := n) (s := s) (l := l) (i := i)
    obtain ⟨b1, b2, b3, b4, b5⟩ := playAllM_keep (cmp := cmp) (n := n) k (playsM cmp n s l i).1 (playsM cmp n s l i).2 (i + 1)
    exact ⟨b1.trans a1, b2.trans a2, b3.trans a3, b4.trans a4, b5.trans a5⟩
theorem playsL_len {cmp : Thing → Thing → Int} {s : MS} {n : Nat} : ∀ (a : Nat) (l : List (Option Nat)) (i : Nat), i < n → ValidL n l → a < l.length → (playsL cmp s l i a).1.length = l.length ∧ ValidL n (playsL cmp s l i a).1 := by
  intro a
  induction a using Nat.strongRecOn with
  | _ a ih =>
    intro l i hi hv ha
    rw [playsL]
    split
    · exact ⟨rfl, hv⟩
    · rename_i h0
      split
      · exact ⟨by simp, hv.set hi⟩
      · rename_i o ho
        split
        · have := ih (a / 2) (by omega) (l.set a (some i)) o (hv.get ha ho) (hv.set hi) (by simp; omega)
          exact ⟨this.1.trans (by simp), this.2⟩
        · exact ih (a / 2) (by omega) _ _ hi hv (by omega)
theorem playsM_len {cmp : Thing → Thing → Int} {n : Nat} {s : MS} {l : List (Option Nat)} {i : Nat} (hi : i < n) (hv : ValidL n l) (hl : n ≤ l.length) : (playsM cmp n s l i).2.length = l.length ∧ ValidL n (playsM cmp n s l i).2 := by
  have := playsL_len (cmp := cmp) (s := s) ((i + n) / 2) l i hi hv (by omega)
  unfold playsM
  split <;> (rename_i h; rw [h] at this; exact this)
theorem playAllM_win {cmp : Thing → Thing → Int} {n : Nat} : ∀ (k : Nat) (s : MS) (l : List (Option Nat)) (i : Nat), i + k = n → ValidL n l → n ≤ l.length → s.win < n → (playAllM cmp n k s l i).1.win < n
  | 0, s, l, i, _, _, _, h => h
  | k + 1, s, l, i, hk, hv, hl, h => by
    rw [playAllM]
    have hlen := playsM_len (cmp := cmp) (s := s) (l := l) (i := i) (n := n) (by omega) hv hl
    exact playAllM_win k _ _ (i + 1) (by omega) hlen.2 (by rw [hlen.1]; exact hl) (playsM_win (by omega) hv hl h)
theorem beginM_keep {cmp : Thing → Thing → Int} {n : Nat} {s : MS} : (beginM S cmp n s t).2.1.1.bg = true ∧ ((beginM S cmp n s t).1 = 0 → (beginM S cmp n s t).2.1.1.ov = s.ov ∧ (beginM S cmp n s t).2.1.1.e = s.e) ∧ ((beginM S cmp n s t).1 ≠ 0 → (beginM S cmp n s t).2.1.1.ov = true ∧ (beginM S cmp n s t).2.1.1.e = (beginM S cmp n s t).1) ∧
    ((beginM S cmp n s t).1 = 0 → s.win = 0 → 0 < n → (beginM S cmp n s t).2.1.1.win < n) := by
  obtain ⟨a1, a2, a3, a4⟩ := askAllM_keep (S := S) (cmp := cmp) n { s with bg := true } t 0
  unfold beginM
  split
  · rename_i h; exact ⟨a1, fun h' => absurd h' h, fun _ => a4 h, fun h' => absurd h' h⟩
  · rename_i h
    have h : (askAllM S cmp n { s with bg := true } t 0).1 = 0 := by simpa using h
    obtain ⟨b1, b2, b3, b4, b5⟩ := playAllM_keep (cmp := cmp) (n := n) n (askAllM S cmp n { s with bg := true } t 0).2.1 (List.replicate (max n 1) none) 0
    refine ⟨b1.trans a1, fun _ => ⟨b2.trans (a3 h).1, b3.trans (a3 h).2⟩, fun h' => absurd rfl h', fun _ hw hn => ?_⟩
    exact playAllM_win n _ _ 0 (by omega) (fun k hk => by simp [List.mem_replicate] at hk) (by simp; omega) (by rw [a2]; simpa [hw] using hn)
theorem MI.perm {s : MS} {r' : List (Nat × List Value)} (h : MI S w0 D y s r t F w) (hp : r'.Perm r) : MI S w0 D y s r' t F w := by
  have hpm : (y.m s r').Perm (y.m s r) := by
    simp only [Ly.m]
    exact .cons _ (.cons _ (.cons _ (.cons _ hp)))
  exact ⟨⟨h.at_.mod, fun p hpp => h.at_.own p (hpm.subset hpp), (hpm.map Prod.fst).nodup_iff.2 h.at_.nodup, fun p hpp => h.at_.wr p (hpm.subset hpp)⟩, h.ok, h.src, ⟨h.off.b, h.off.bf, h.off.bh, h.off.bs, fun p hpp => h.off.r p (hp.subset hpp)⟩, h.dom⟩
theorem MI.st5 {s : MS} {b b1 : Nat} {c c1 : List Value} (h : MI S w0 D y s ((b1, c1) :: (b, c) :: r) t F w) {o : Nat} {vs : List LV} {K : World → Prop} (hl : o + vs.length ≤ c.length)
    (hK : ∀ w', MI S w0 D y s ((b1, c1) :: (b, spl c o (vs.map LV.toV)) :: r) t F w' → Mod (fun k => k = b) w w' → K w') : Go.Vw.st w b o vs K :=
  h.st 5 (s' := s) rfl hl rfl h.ok (fun p hp => by
    rcases List.mem_cons.1 hp with rfl | hp
    · exact ⟨(b1, c1), by simp, rfl⟩
    · rcases List.mem_cons.1 hp with rfl | hp
      · exact ⟨(b, c), by simp, rfl⟩
      · exact ⟨p, by simp [hp], rfl⟩) hK
abbrev zT : List Value := [.int .i64 0, .int .i64 0]
/-- the end of Next with no thing -/
theorem next_err {s : MS} {b2 b4 : Nat} (h : MI S w0 D y s ((b4, zT) :: (b2, zT) :: r) t F w) {K : Int → Int → World → Prop} (hK : ∀ w', MI S w0 D y s r t F w' → K 0 0 w') :
    Go.Vw.ld w (.int .i64) b4 0 fun n29 => Go.Vw.ld w (.int .i64) b4 1 fun n30 => Go.Vw.st w b2 0 [.int .i64 n29, .int .i64 n30] fun w_31 => Go.Vw.ld w_31 (.int .i64) b2 0 fun n32 => Go.Vw.ld w_31 (.int .i64) b2 1 fun n33 => K n32 n33 w_31 := by
  refine h.at_.ld 4 0 rfl rfl (h.at_.ld 4 0 rfl rfl (h.st5 (Nat.le_refl 2) fun w1 h1 _ => ?_))
  refine h1.at_.ld 5 0 rfl rfl (h1.at_.ld 5 0 rfl rfl (hK _ (h1.drop ((List.sublist_cons_self _ _).trans (List.sublist_cons_self _ _)))))
theorem next_ok (hy : Of S y) {cmp : Thing → Thing → Int} (hc : CmpOk y.cv cmp) (hn : y.n ≤ 64) {p : PM} (hw0 : p.1.bg = false → p.1.win = 0 ∧ p.1.ov = false) (h : MF S w0 D y p r t F w) {K : Int → Int → Bool → Int → World → Prop}
    (hK : ∀ w' F', MF S w0 D y (nextM S cmp y.n p t).2.1 r (nextM S cmp y.n p t).2.2 F' w' → K (nextM S cmp y.n p t).1.1.1 (nextM S cmp y.n p t).1.1.2 (nextM S cmp y.n p t).1.2.1 (nextM S cmp y.n p t).1.2.2 w') :
    callK Try.prog 27 [.leaf (.ptr (some (y.b, 0)))] w (.tup [.agg [.int .i64, .int .i64], .leaf .bool, .leaf (.int .i64)]) K := by
  refine go_merge_Merge_Next_winnowref11_Thing _ _ _ ?_
  unfold S_merge_Merge_Next_winnowref11_Thing
  have hwin := h.win
  obtain ⟨lo, rl, h, htree⟩ := h.ex
  refine h.al fun b2 w1 h1 _ _ => h1.al fun b4 w2 h2 _ _ => ifK_f rfl ?_
  have h2 : MI S w0 D { y with lo := lo } p.1 ((b4, zT) :: (b2, zT) :: (rl ++ r)) t F w2 := h2
  refine dr_some (h2.at_.ld 0 p.1.ov rfl rfl ?_)
  refine ifK_intro (fun hov => ?_) (fun hov => ?_)
  · refine ⟨fun k => k = b2, ?_⟩
    have h3 := h2.drew
    have hne : ¬ b4 = b2 := h3.at_.ne (i := 4) (j := 5) rfl rfl (by decide)
    have hne2 : ¬ y.b = b2 := h3.at_.ne (i := 0) (j := 5) rfl rfl (by decide)
    refine h3.at_.ldD 4 0 rfl rfl hne (h3.at_.ldD 4 0 rfl rfl hne (dr_some (h3.at_.ldD 0 p.1.e rfl rfl hne2 ?_)))
    refine h3.st5 (Nat.le_refl 2) fun w4 h4 M4 => ⟨M4, ?_⟩
    refine h4.at_.ld 5 0 rfl rfl (h4.at_.ld 5 0 rfl rfl ?_)
    have hnx : nextM S cmp y.n p t = (((0, 0), false, p.1.e), p, t) := by unfold nextM; rw [if_pos hov]
    have := hK w4 F; rw [hnx] at this
    exact this ⟨⟨lo, rl, h4.drop ((List.sublist_cons_self _ _).trans (List.sublist_cons_self _ _)), htree⟩, hwin⟩
  · have hnx : nextM S cmp y.n p t = if (qM S cmp y.n p t).1 ≠ 0 then (((0, 0), false, (qM S cmp y.n p t).1), (qM S cmp y.n p t).2)
      else if y.n = 0 ∨ getB (qM S cmp y.n p t).2.1.1.sm (qM S cmp y.n p t).2.1.1.win = false then (((0, 0), false, 0), ({ (qM S cmp y.n p t).2.1.1 with ov := true, e := 0 }, (qM S cmp y.n p t).2.1.2), (qM S cmp y.n p t).2.2)
      else ((getT (qM S cmp y.n p t).2.1.1.hd (qM S cmp y.n p t).2.1.1.win, true, 0), (qM S cmp y.n p t).2) := by
      conv => lhs; unfold nextM
      rw [if_neg (by rw [hov]; decide)]
    have hbad : ∀ (e : Int) (s' : MS) (l' : List (Option Nat)) (t' : σ) (F' : Nat → Prop) (y' : Ly) (rl' : List (Nat × List Value)) (lo' : Sl) (w' : World), qM S cmp y.n p t = (e, (s', l'), t') → e ≠ 0 → y' = { y with lo := lo' } → s'.ov = true → MI S w0 D y' s' ((b4, zT) :: (b2, zT) :: (rl' ++ r)) t' F' w' →
        Go.Vw.ld w' (.int .i64) b4 0 fun n29 => Go.Vw.ld w' (.int .i64) b4 1 fun n30 => Go.Vw.st w' b2 0 [.int .i64 n29, .int .i64 n30] fun w_31 => Go.Vw.ld w_31 (.int .i64) b2 0 fun n32 => Go.Vw.ld w_31 (.int .i64) b2 1 fun n33 => K n32 n33 false e w_31 := by
      rintro e s' l' t' F' y' rl' lo' w' hq he rfl hov' h'
      refine next_err h' (K := fun a b w => K a b false e w) fun w4 h4 => ?_
      have := hK w4 F'; rw [hnx, hq, if_pos he] at this
      exact this ⟨⟨lo', rl', h4, fun _ ho => by rw [hov'] at ho; cases ho⟩, fun _ ho => by rw [hov'] at ho; cases ho⟩
    refine dr_some (h2.at_.ld 0 p.1.bg rfl rfl ?_)
    refine join0 (fun w' => ∃ (lo' : Sl) (bl : Nat) (s' : MS) (l' : List (Option Nat)) (t' : σ) (F' : Nat → Prop), MI S w0 D { y with lo := lo' } s' ((b4, zT) :: (b2, zT) :: (bl, EL.cells l') :: r) t' F' w' ∧ Tree { y with lo := lo' } l' [(bl, EL.cells l')] ∧ qM S cmp y.n p t = (0, (s', l'), t') ∧ (0 < y.n → s'.win < y.n) ∧ s'.bg = true) (fun k hk => ?_) ?_
    · refine ifK_intro (fun hbg => ?_) (fun hbg => ?_)
      · have hbg : p.1.bg = false := by simpa using hbg
        have hq : qM S cmp y.n p t = beginM S cmp y.n p.1 t := by unfold qM; rw [if_neg (by rw [hbg]; decide)]
        obtain ⟨k1, k2, k3, k4⟩ := beginM_keep (S := S) (t := t) (cmp := cmp) (n := y.n) (s := p.1)
        have hy' : Of S { y with lo := lo } := ⟨hy.n, hy.p, hy.len, hy.cap, hy.v⟩
        refine begin_ok (y := { y with lo := lo }) hy' hc hn h2 (fun w3 F3 he h3 => ?_) (fun w3 F3 lo3 rl3 he h3 ht3 => ?_)
        · refine ifK_t (by simpa using he) ?_
          exact hbad _ _ _ _ F3 _ rl lo w3 (hq.trans (Prod.ext rfl (Prod.ext (Prod.ext rfl rfl) rfl))) he rfl (k3 he).1 h3
        · refine ifK_f rfl (hk _ ?_)
          obtain ⟨bl, hrl, e1, e2, e3⟩ := ht3
          subst hrl
          refine ⟨lo3, bl, _, _, _, F3, (h3.perm (r' := (b4, zT) :: (b2, zT) :: (bl, EL.cells (beginM S cmp y.n p.1 t).2.1.2) :: (rl ++ r)) ?_).drop ?_, ⟨bl, rfl, e1, e2, e3⟩, hq.trans (Prod.ext he rfl), fun hn0 => k4 he (hw0 hbg).1 hn0, k1⟩
          · exact (List.Perm.cons _ (List.Perm.swap _ _ _)).trans (List.Perm.swap _ _ _)
          · exact .cons_cons _ (.cons_cons _ (.cons_cons _ (List.sublist_append_right _ _)))
      · have hbg : p.1.bg = true := by simpa using hbg
        have hov' : p.1.ov = false := hov
        have hw := hwin hbg hov'
        obtain ⟨bl, hrl, e1, e2, e3⟩ := htree hbg hov'
        subst hrl
        have hy' : Of S { y with lo := lo } := ⟨hy.n, hy.p, hy.len, hy.cap, hy.v⟩
        obtain ⟨a1, a2, a3, a4⟩ := asksM_keep (S := S) (t := t) (cmp := cmp) (s := p.1) (i := p.1.win)
        refine dr_some (h2.at_.ld 0 (k := .int .i64) (p.1.win : Int) rfl rfl ?_)
        refine asks_ok (y := { y with lo := lo }) hy' hc h2 hw fun w3 F3 h3 _ => ?_
        refine ifK_intro (fun he => ?_) (fun he => ?_)
        · have he' : (asksM S cmp p.1 t p.1.win).1 ≠ 0 := by simpa using he
          have hq : qM S cmp y.n p t = ((asksM S cmp p.1 t p.1.win).1, ((asksM S cmp p.1 t p.1.win).2.1, p.2), (asksM S cmp p.1 t p.1.win).2.2) := by unfold qM; rw [if_pos hbg, if_pos he']
          exact hbad _ _ _ _ F3 _ [(bl, EL.cells p.2)] lo w3 hq he' rfl (a4 he').1 h3
        · have he' : (asksM S cmp p.1 t p.1.win).1 = 0 := by simpa using he
          have hq : qM S cmp y.n p t = (0, playsM cmp y.n (asksM S cmp p.1 t p.1.win).2.1 p.2 (asksM S cmp p.1 t p.1.win).2.1.win, (asksM S cmp p.1 t p.1.win).2.2) := by unfold qM; rw [if_pos hbg, if_neg (by simpa using he')]
          refine dr_some (h3.at_.ld 0 (k := .int .i64) ((asksM S cmp p.1 t p.1.win).2.1.win : Int) rfl rfl ?_)
          have h4 := h3.perm (r' := (bl, EL.cells p.2) :: (b4, zT) :: (b2, zT) :: r) ((List.Perm.swap _ _ _).trans (List.Perm.cons _ (List.Perm.swap _ _ _)))
          have hw' : (asksM S cmp p.1 t p.1.win).2.1.win < y.n := by rw [a2]; exact hw
          refine plays_ok (y := { y with lo := lo }) hy' hc e1 hn e2 (by simp; omega) (by simp; omega) e3 h4 hw' fun w5 h5 hl5 hv5 => hk _ ?_
          refine ⟨lo, bl, _, _, _, F3, h5.perm ((List.Perm.cons _ (List.Perm.swap _ _ _)).trans (List.Perm.swap _ _ _)), ⟨bl, rfl, e1, hl5, hv5⟩, hq, fun _ => playsM_win hw' e3 (by rw [e2]; simp; omega) hw', ?_⟩
          exact playsM_keep.1.trans (a1.trans hbg)
    · rintro w3 ⟨lo3, bl, s3, l3, t3, F3, h3, ht3, hq, hw3, hbg3⟩
      rw [hq, if_neg (by simp)] at hnx
      refine join1 (a := .bool) (fun b w' => MI S w0 D { y with lo := lo3 } s3 ((b4, zT) :: (b2, zT) :: (bl, EL.cells l3) :: r) t3 F3 w' ∧ (b = true ↔ (y.n = 0 ∨ getB s3.sm s3.win = false))) (fun k hk => ?_) ?_
      · refine ⟨fun _ => False, ?_⟩
        have h4 := h3.drew
        refine dr_some (h4.at_.ldD 0 y.fr rfl rfl id ?_)
        refine ifK_intro (fun h0 => hk _ _ ⟨h4, ?_⟩) (fun h0 => ?_)
        · rw [hy.len] at h0; simp at h0; simp [h0]
        · have hn0 : 0 < y.n := by rw [hy.len] at h0; simp at h0; omega
          refine dr_some (h4.at_.ldD 0 _ rfl rfl id ?_)
          refine dr_some (h4.at_.ldD 0 (k := .int .i64) (s3.win : Int) rfl rfl id ?_)
          have hw := hw3 hn0
          refine ix_some rfl (by omega) (show (s3.win : Int) < (y.n : Nat) by omega) (ldD_cell _ id (at_some (y := { y with lo := lo3 }) h4.at_ h4.ok hw) (hk _ _ ⟨h4, ?_⟩))
          have hn1 : y.n ≠ 0 := by omega
          cases hg : getB s3.sm s3.win <;> simp [hn1]
      · rintro b w4 ⟨h4, hb⟩
        refine ifK_intro (fun ht => ?_) (fun ht => ?_)
        · rw [if_pos (hb.1 ht)] at hnx
          refine ⟨fun k => k = y.b ∨ k = b2, ?_⟩
          have h5 := h4.drew
          have hne : ¬ (b4 = y.b ∨ b4 = b2) := fun h => h.elim (h5.at_.ne (i := 4) (j := 0) rfl rfl (by decide)) (h5.at_.ne (i := 4) (j := 5) rfl rfl (by decide))
          refine h5.at_.ldD 4 0 rfl rfl hne (h5.at_.ldD 4 0 rfl rfl hne ?_)
          refine ends_ok h5 0 fun w6 h6 M6 => ⟨M6.mono fun _ _ h => .inl h, ?_⟩
          refine h6.st5 (Nat.le_refl 2) fun w7 h7 M7 => ⟨M6.trans M7 (fun _ _ h => .inl h) (fun _ _ h => .inr h), ?_⟩
          refine h7.at_.ld 5 0 rfl rfl (h7.at_.ld 5 0 rfl rfl ?_)
          have := hK w7 F3; rw [hnx] at this
          exact this ⟨⟨lo3, [(bl, EL.cells l3)], h7.drop ((List.sublist_cons_self _ _).trans (List.sublist_cons_self _ _)), fun _ ho => by cases ho⟩, fun _ ho => by cases ho⟩
        · have hnb : ¬ (y.n = 0 ∨ getB s3.sm s3.win = false) := fun h => by rw [hb.2 h] at ht; cases ht
          rw [if_neg hnb] at hnx
          have hn0 : 0 < y.n := by omega
          have hw := hw3 hn0
          refine ⟨fun k => k = b2, ?_⟩
          have h5 := h4.drew
          have n1 : ¬ y.b = b2 := h5.at_.ne (i := 0) (j := 5) rfl rfl (by decide)
          have n2 : ¬ y.bh = b2 := h5.at_.ne (i := 2) (j := 5) rfl rfl (by decide)
          refine dr_some (h5.at_.ldD 0 _ rfl rfl n1 ?_)
          refine dr_some (h5.at_.ldD 0 (k := .int .i64) (s3.win : Int) rfl rfl n1 ?_)
          refine ix_some rfl (by omega) (show (s3.win : Int) < (y.n : Nat) by omega) (ldD_cell _ n2 (at_head0 (y := { y with lo := lo3 }) h5.at_ h5.ok hw) (ldD_cell _ n2 (at_head1 (y := { y with lo := lo3 }) h5.at_ h5.ok hw) ?_))
          refine h5.st5 (Nat.le_refl 2) fun w6 h6 M6 => ⟨M6, ?_⟩
          refine h6.at_.ld 5 (k := .int .i64) (getT s3.hd s3.win).1 rfl rfl (h6.at_.ld 5 (k := .int .i64) (getT s3.hd s3.win).2 rfl rfl ?_)
          have := hK w6 F3; rw [hnx] at this
          exact this ⟨⟨lo3, [(bl, EL.cells l3)], h6.drop ((List.sublist_cons_self _ _).trans (List.sublist_cons_self _ _)), fun _ _ => ht3⟩, fun _ _ => hw⟩
end
end Go.Proofs.Ytfhojgammfkabaa
