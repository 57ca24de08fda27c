/- All that a merge tells: one call after the other. -/
import Derived.Test.YtfhojgammfkabaaM8
namespace Go.Proofs.Ytfhojgammfkabaa
open Go.Vw

/-- what the sources have yet to tell when all is told -/
def endM (n : Nat) (en : Nat → Int) (Q0 : Nat → List Thing) (R : Nat → Option (List Thing)) : Prop :=
  match firstE Q0 en n 0 with
  | some j => (∀ a, a ≤ j → RQ Q0 R a) ∧ ∀ a, j < a → a < n → R a = some (Q0 a)
  | none => ∀ a, a < n → RQ (runF n en (remQ Q0 n) Q0).2.2 R a
section
variable {σ : Type} {S : Srcs σ} {en : Nat → Int} {St : σ → (Nat → Option (List Thing)) → Prop}
/-- what a merge is about to tell: c: how much it has told -/
inductive Tell (S : Srcs σ) (en : Nat → Int) (St : σ → (Nat → Option (List Thing)) → Prop) (tot : Nat) (Fin : (Nat → Option (List Thing)) → Prop) : PM → σ → Nat → List Thing → Int → Prop
  | start {p : PM} {t : σ} {Q0 : Nat → List Thing} {out : List Thing} {err : Int} : p.1.bg = false → p.1.ov = false → p.1.e = 0 → p.1.win = 0 → Rel S.n St p.1 t Q0 0 Q0 → runM S.n en Q0 = (out, err) → remQ Q0 S.n = tot → (∀ R, endM S.n en Q0 R → Fin R) → Tell S en St tot Fin p t 0 out err
  | mid {p : PM} {t : σ} {Q Q0 : Nat → List Thing} {k : Nat} {x : Thing} {r : List Thing} {c : Nat} : p.1.bg = true → p.1.ov = false → p.1.e = 0 → 0 < S.n → Top cmpT S.n p.1 p.2 → p.2.length = max S.n 1 → ValidL S.n p.2 → Rel S.n St p.1 t Q S.n Q0 → getB p.1.sm p.1.win = true → Q p.1.win = x :: r →
      remQ (upd Q p.1.win r) S.n ≤ k → remQ Q S.n + c = tot + 1 → (∀ R, (∀ i, i < S.n → RQ (contF S.n en k Q p.1.win x r).2.2 R i) → Fin R) → Tell S en St tot Fin p t c (contF S.n en k Q p.1.win x r).1 (contF S.n en k Q p.1.win x r).2.1
  | over {p : PM} {t : σ} {err : Int} {c : Nat} : p.1.ov = true → p.1.bg = true → p.1.e = err → (∃ R, St t R ∧ Fin R) → Tell S en St tot Fin p t c [] err
theorem Rel.rq {n m : Nat} {s : MS} {t : σ} {Q Q0 : Nat → List Thing} (h : Rel n St s t Q n Q0) : ∃ R, St t R ∧ ∀ i, i < n → RQ Q R i := by
  obtain ⟨R, hR, h1, _⟩ := h.ex
  refine ⟨R, hR, fun i hi => ?_⟩
  cases hg : getB s.sm i with
  | true => obtain ⟨r, e1, e2⟩ := (h1 i hi).1 hg; exact .inr ⟨_, r, e2, e1⟩
  | false => obtain ⟨e1, e2⟩ := (h1 i hi).2 hg; exact .inl ⟨e2, e1⟩
theorem Rel.same {n m : Nat} {s s' : MS} {t : σ} {Q Q0 : Nat → List Thing} (h : Rel n St s t Q m Q0) (h1 : s'.hd = s.hd) (h2 : s'.sm = s.sm) : Rel n St s' t Q m Q0 :=
  ⟨h1 ▸ h.ok1, h2 ▸ h.ok2, by rw [h1, h2]; exact h.ex⟩
/-- behind the choice of the winner -/
theorem tell_pick {tot : Nat} {Fin : (Nat → Option (List Thing)) → Prop} {p : PM} {t : σ} {Q Q0 : Nat → List Thing} {k : Nat} {c : Nat} (hbg : p.1.bg = true) (hov : p.1.ov = false) (he : p.1.e = 0) (hn : 0 < S.n) (htop : Top cmpT S.n p.1 p.2) (hl : p.2.length = max S.n 1) (hv : ValidL S.n p.2)
    (hr : Rel S.n St p.1 t Q S.n Q0) (hk : remQ Q S.n ≤ k) (hc : remQ Q S.n + c = tot) (hF : ∀ R, (∀ i, i < S.n → RQ (runF S.n en k Q).2.2 R i) → Fin R) :
    (getB p.1.sm p.1.win = false → runF S.n en k Q = ([], 0, Q) ∧ ∃ R, St t R ∧ Fin R) ∧
    (getB p.1.sm p.1.win = true → ∃ out, (runF S.n en k Q).1 = getT p.1.hd p.1.win :: out ∧ Tell S en St tot Fin p t (c + 1) out (runF S.n en k Q).2.1) := by
  obtain ⟨b1, b2⟩ := best_scan hr (htop.best hn)
  refine ⟨fun hg => ?_, fun hg => ?_⟩
  · have h0 := runF_none (en := en) (k := k) (b2 hg)
    obtain ⟨R, hR, hq⟩ := hr.rq (m := 0)
    exact ⟨h0, R, hR, hF R (by rw [h0]; exact hq)⟩
  · obtain ⟨R, hR, h1, _⟩ := hr.ex
    have hw := (htop.best hn).1
    obtain ⟨r, e1, e2⟩ := (h1 _ hw).1 hg
    have hpos := remQ_pos (Q := Q) (b := p.1.win) (by rw [e2]; simp) S.n hw
    obtain ⟨k', rfl⟩ : ∃ k', k = k' + 1 := ⟨k - 1, by omega⟩
    have hrun := runF_some (en := en) (k := k') (b1 hg) e2
    have hrem := (remQ_upd e2 S.n).1 hw
    rw [hrun] at hF ⊢
    exact ⟨_, rfl, .mid hbg hov he hn htop hl hv hr hg e2 (by omega) (by omega) hF⟩
/-- what nextM answers, once the winner is chosen -/
theorem next_pick {tot : Nat} {Fin : (Nat → Option (List Thing)) → Prop} {p0 p : PM} {t0 t : σ} {Q Q0 : Nat → List Thing} {k : Nat} {c : Nat} (hov0 : p0.1.ov = false) (hq : qM S cmpT S.n p0 t0 = (0, p, t)) (hbg : p.1.bg = true) (hov : p.1.ov = false) (he : p.1.e = 0)
    (htop : 0 < S.n → Top cmpT S.n p.1 p.2) (hl : p.2.length = max S.n 1) (hv : ValidL S.n p.2) (hr : Rel S.n St p.1 t Q S.n Q0) (hk : remQ Q S.n ≤ k) (hc : remQ Q S.n + c = tot) (hF : ∀ R, (∀ i, i < S.n → RQ (runF S.n en k Q).2.2 R i) → Fin R) :
    (∀ x rest, (runF S.n en k Q).1 = x :: rest → (nextM S cmpT S.n p0 t0).1 = (x, true, 0) ∧ Tell S en St tot Fin (nextM S cmpT S.n p0 t0).2.1 (nextM S cmpT S.n p0 t0).2.2 (c + 1) rest (runF S.n en k Q).2.1 ∧ (nextM S cmpT S.n p0 t0).2.1.1.e = 0) ∧
    ((runF S.n en k Q).1 = [] → (nextM S cmpT S.n p0 t0).1 = ((0, 0), false, (runF S.n en k Q).2.1) ∧ Tell S en St tot Fin (nextM S cmpT S.n p0 t0).2.1 (nextM S cmpT S.n p0 t0).2.2 c [] (runF S.n en k Q).2.1 ∧ (nextM S cmpT S.n p0 t0).2.1.1.ov = true) := by
  have hnx : nextM S cmpT S.n p0 t0 = if S.n = 0 ∨ getB p.1.sm p.1.win = false then (((0, 0), false, 0), ({ p.1 with ov := true, e := 0 }, p.2), t) else ((getT p.1.hd p.1.win, true, 0), p, t) := by
    unfold nextM
    rw [if_neg (by rw [hov0]; decide), hq, if_neg (by simp)]
  rw [hnx]
  have hend : (runF S.n en k Q) = ([], 0, Q) → (S.n = 0 ∨ getB p.1.sm p.1.win = false) → (∃ R, St t R ∧ Fin R) →
      (∀ x rest, (runF S.n en k Q).1 = x :: rest → (if S.n = 0 ∨ getB p.1.sm p.1.win = false then (((0, 0), false, 0), ({ p.1 with ov := true, e := 0 }, p.2), t) else ((getT p.1.hd p.1.win, true, 0), p, t) : (Thing × Bool × Int) × PM × σ).1 = (x, true, 0) ∧ Tell S en St tot Fin (if S.n = 0 ∨ getB p.1.sm p.1.win = false then (((0, 0), false, 0), ({ p.1 with ov := true, e := 0 }, p.2), t) else ((getT p.1.hd p.1.win, true, 0), p, t) : (Thing × Bool × Int) × PM × σ).2.1 (if S.n = 0 ∨ getB p.1.sm p.1.win = false then (((0, 0), false, 0), ({ p.1 with ov := true, e := 0 }, p.2), t) else ((getT p.1.hd p.1.win, true, 0), p, t) : (Thing × Bool × Int) × PM × σ).2.2 (c + 1) rest (runF S.n en k Q).2.1 ∧ (if S.n = 0 ∨ getB p.1.sm p.1.win = false then (((0, 0), false, 0), ({ p.1 with ov := true, e := 0 }, p.2), t) else ((getT p.1.hd p.1.win, true, 0), p, t) : (Thing × Bool × Int) × PM × σ).2.1.1.e = 0) ∧
      ((runF S.n en k Q).1 = [] → (if S.n = 0 ∨ getB p.1.sm p.1.win = false then (((0, 0), false, 0), ({ p.1 with ov := true, e := 0 }, p.2), t) else ((getT p.1.hd p.1.win, true, 0), p, t) : (Thing × Bool × Int) × PM × σ).1 = ((0, 0), false, (runF S.n en k Q).2.1) ∧ Tell S en St tot Fin (if S.n = 0 ∨ getB p.1.sm p.1.win = false then (((0, 0), false, 0), ({ p.1 with ov := true, e := 0 }, p.2), t) else ((getT p.1.hd p.1.win, true, 0), p, t) : (Thing × Bool × Int) × PM × σ).2.1 (if S.n = 0 ∨ getB p.1.sm p.1.win = false then (((0, 0), false, 0), ({ p.1 with ov := true, e := 0 }, p.2), t) else ((getT p.1.hd p.1.win, true, 0), p, t) : (Thing × Bool × Int) × PM × σ).2.2 c [] (runF S.n en k Q).2.1 ∧ (if S.n = 0 ∨ getB p.1.sm p.1.win = false then (((0, 0), false, 0), ({ p.1 with ov := true, e := 0 }, p.2), t) else ((getT p.1.hd p.1.win, true, 0), p, t) : (Thing × Bool × Int) × PM × σ).2.1.1.ov = true) := by
    intro h0 hc hR
    simp only [if_pos hc, h0]
    exact ⟨(fun x rest h => by cases h), fun _ => ⟨trivial, .over rfl hbg rfl hR, trivial⟩⟩
  by_cases hn : S.n = 0
  · have hk0 : runF S.n en k Q = ([], 0, Q) := runF_none (by rw [hn]; rfl)
    obtain ⟨R, hR, hq'⟩ := hr.rq (m := 0)
    exact hend hk0 (.inl hn) ⟨R, hR, hF R (by rw [hk0]; exact hq')⟩
  · obtain ⟨d1, d2⟩ := tell_pick (tot := tot) (Fin := Fin) (c := c) hbg hov he (by omega) (htop (by omega)) hl hv hr hk hc hF
    cases hg : getB p.1.sm p.1.win with
    | false =>
      obtain ⟨h0, hR⟩ := d1 hg
      rw [← hg]
      have := hend h0 (.inr hg) hR
      rw [hg] at this ⊢
      exact this
    | true =>
      obtain ⟨out, ho, hT⟩ := d2 hg
      have hneg : ¬ (S.n = 0 ∨ true = false) := by simp [hn]
      rw [if_neg hneg]
      refine ⟨fun x rest hx => ?_, fun hx => ?_⟩
      · rw [ho] at hx; cases hx; exact ⟨rfl, hT, he⟩
      · rw [ho] at hx; cases hx
theorem next_tell (hS : Lists S en St) {tot : Nat} {Fin : (Nat → Option (List Thing)) → Prop} {p : PM} {t : σ} {c : Nat} {out : List Thing} {err : Int} (h : Tell S en St tot Fin p t c out err) :
    (∀ x rest, out = x :: rest → (nextM S cmpT S.n p t).1 = (x, true, 0) ∧ Tell S en St tot Fin (nextM S cmpT S.n p t).2.1 (nextM S cmpT S.n p t).2.2 (c + 1) rest err ∧ (nextM S cmpT S.n p t).2.1.1.e = 0) ∧
    (out = [] → (nextM S cmpT S.n p t).1 = ((0, 0), false, err) ∧ Tell S en St tot Fin (nextM S cmpT S.n p t).2.1 (nextM S cmpT S.n p t).2.2 c [] err ∧ (nextM S cmpT S.n p t).2.1.1.ov = true) := by
  -- an error of the sources ends it
  have bad : ∀ (err : Int) (e : Int) (q : PM) (t' : σ) (o : List Thing), p.1.ov = false → qM S cmpT S.n p t = (e, q, t') → e ≠ 0 → q.1.ov = true → q.1.bg = true → q.1.e = e → (∃ R, St t' R ∧ Fin R) → o = [] → err = e →
      (∀ x rest, o = x :: rest → (nextM S cmpT S.n p t).1 = (x, true, 0) ∧ Tell S en St tot Fin (nextM S cmpT S.n p t).2.1 (nextM S cmpT S.n p t).2.2 (c + 1) rest err ∧ (nextM S cmpT S.n p t).2.1.1.e = 0) ∧
      (o = [] → (nextM S cmpT S.n p t).1 = ((0, 0), false, err) ∧ Tell S en St tot Fin (nextM S cmpT S.n p t).2.1 (nextM S cmpT S.n p t).2.2 c [] err ∧ (nextM S cmpT S.n p t).2.1.1.ov = true) := by
    rintro err e q t' o hov hq he hqov hqbg hqe hR rfl rfl
    have hnx : nextM S cmpT S.n p t = (((0, 0), false, err), q, t') := by
      unfold nextM; rw [if_neg (by rw [hov]; decide), hq, if_pos he]
    rw [hnx]
    exact ⟨(fun x rest h => by cases h), fun _ => ⟨rfl, .over hqov hqbg hqe hR, hqov⟩⟩
  cases h with
  | over ho hbg he hR =>
    have hnx : nextM S cmpT S.n p t = (((0, 0), false, p.1.e), p, t) := by unfold nextM; rw [if_pos ho]
    rw [hnx, he]
    exact ⟨(fun x rest h => by cases h), fun _ => ⟨rfl, .over ho hbg he hR, ho⟩⟩
  | start hbg hov he hwin hrel hrun htot hF =>
    rename_i Q0
    have hq : qM S cmpT S.n p t = beginM S cmpT S.n p.1 t := by unfold qM; rw [if_neg (by rw [hbg]; decide)]
    obtain ⟨k1, k2, k3, k4⟩ := beginM_keep (S := S) (t := t) (cmp := cmpT) (n := S.n) (s := p.1)
    obtain ⟨a1, a2⟩ := askAll_rel hS S.n { p.1 with bg := true } t 0 (by omega) (hrel.same (s' := { p.1 with bg := true }) rfl rfl)
    obtain ⟨c1, c2, c3, c4⟩ := askAllM_keep (S := S) (cmp := cmpT) S.n { p.1 with bg := true } t 0
    unfold runM at hrun
    unfold endM at hF
    cases hf : firstE Q0 en S.n 0 with
    | some j =>
      obtain ⟨e1, e2, R, hR, q1, q2⟩ := a1 j hf
      rw [hf] at hrun hF
      simp only at hrun hF
      have hne : (askAllM S cmpT S.n { p.1 with bg := true } t 0).1 ≠ 0 := by rw [e1]; exact e2
      have hb : beginM S cmpT S.n p.1 t = (en j, ((askAllM S cmpT S.n { p.1 with bg := true } t 0).2.1, []), (askAllM S cmpT S.n { p.1 with bg := true } t 0).2.2) := by
        unfold beginM; rw [if_pos hne, e1]
      cases hrun
      exact bad _ _ _ _ _ hov (hq.trans hb) e2 (c4 hne).1 c1 ((c4 hne).2.trans e1) ⟨R, hR, hF R ⟨q1, q2⟩⟩ rfl rfl
    | none =>
      obtain ⟨e1, e2⟩ := a2 hf
      rw [hf] at hrun hF
      simp only at hrun hF
      have hb : beginM S cmpT S.n p.1 t = (0, playAllM cmpT S.n S.n (askAllM S cmpT S.n { p.1 with bg := true } t 0).2.1 (List.replicate (max S.n 1) none) 0, (askAllM S cmpT S.n { p.1 with bg := true } t 0).2.2) := by
        unfold beginM; rw [if_neg (by rw [e1]; simp)]
      have hq2 := hq.trans hb
      generalize hs2 : (askAllM S cmpT S.n { p.1 with bg := true } t 0).2.1 = s2 at *
      generalize ht2 : (askAllM S cmpT S.n { p.1 with bg := true } t 0).2.2 = t2 at *
      obtain ⟨b1, b2, b3, b4, b5⟩ := playAllM_keep (cmp := cmpT) (n := S.n) S.n s2 (List.replicate (max S.n 1) none) 0
      have hv0 : ValidL S.n (List.replicate (max S.n 1) (none : Option Nat)) := fun k hk => by simp [List.mem_replicate] at hk
      have hlv : ∀ (k : Nat) (s : MS) (l : List (Option Nat)) (i : Nat), i + k = S.n → l.length = max S.n 1 → ValidL S.n l → (playAllM cmpT S.n k s l i).2.length = max S.n 1 ∧ ValidL S.n (playAllM cmpT S.n k s l i).2 := by
        intro k
        induction k with
        | zero => intro s l i _ h1 h2; exact ⟨h1, h2⟩
        | succ k ih =>
          intro s l i hk h1 h2
          rw [playAllM]
          have := playsM_len (cmp := cmpT) (s := s) (l := l) (i := i) (n := S.n) (by omega) h2 (by omega)
          exact ih _ _ _ (by omega) (this.1.trans h1) this.2
      obtain ⟨l1, l2⟩ := hlv S.n s2 _ 0 (by omega) (by simp) hv0
      have hnp := next_pick (c := 0) (tot := tot) (Fin := Fin) (k := remQ Q0 S.n) (en := en) (St := St) (Q := Q0) (Q0 := Q0) hov hq2 (b1.trans c1) (b2.trans ((c3 e1).1.trans hov)) (b3.trans ((c3 e1).2.trans he))
        (fun hn => playAllM_inv aheadT_asym S.n s2 _ 0 (by omega) hn (by simp; omega) hv0 ((Inv.init (fun p => by simp [getL, List.getElem?_replicate]; split <;> rfl)).of fun j _ => by simp))
        l1 l2 (e2.same b4 b5) (Nat.le_refl _) htot hF
      cases hrun
      exact hnp
  | mid hbg hov he hn htop hl hv hrel hg hqw hk hc hF =>
    rename_i Q Q0 k x r
    obtain ⟨R, hR, h1, _⟩ := hrel.ex
    have hw := (htop.best hn).1
    obtain ⟨r0, e1, e2⟩ := (h1 _ hw).1 hg
    rw [hqw] at e2; cases e2
    have hrem := (remQ_upd hqw S.n).1 hw
    -- the sources behind an asking of the winner
    have rq' : ∀ (Q' : Nat → List Thing) (R' : Nat → Option (List Thing)), RQ Q' R' p.1.win → (∀ i, i ≠ p.1.win → Q' i = Q i ∧ R' i = R i) → ∀ i, i < S.n → RQ Q' R' i := by
      intro Q' R' hw' ho i hi
      by_cases hiw : i = p.1.win
      · rw [hiw]; exact hw'
      · obtain ⟨o1, o2⟩ := ho i hiw
        unfold RQ
        rw [o1, o2]
        cases hgi : getB p.1.sm i with
        | true => obtain ⟨r, e1, e2⟩ := (h1 i hi).1 hgi; exact .inr ⟨_, r, e2, e1⟩
        | false => obtain ⟨e1, e2⟩ := (h1 i hi).2 hgi; exact .inl ⟨e2, e1⟩
    -- on, with another head of the winner
    have go : ∀ (hx : Thing) (sx : Bool) (t' : σ) (R' : Nat → Option (List Thing)), asksM S cmpT p.1 t p.1.win = (0, { p.1 with hd := p.1.hd.set p.1.win hx, sm := p.1.sm.set p.1.win sx }, t') → St t' R' → (∀ i, i ≠ p.1.win → R' i = R i) →
        ((sx = true → ∃ r', R' p.1.win = some r' ∧ r = hx :: r') ∧ (sx = false → R' p.1.win = none ∧ r = [])) → (∀ R, (∀ i, i < S.n → RQ (runF S.n en k (upd Q p.1.win r)).2.2 R i) → Fin R) →
        (∀ y rest, (runF S.n en k (upd Q p.1.win r)).1 = y :: rest → (nextM S cmpT S.n p t).1 = (y, true, 0) ∧ Tell S en St tot Fin (nextM S cmpT S.n p t).2.1 (nextM S cmpT S.n p t).2.2 (c + 1) rest (runF S.n en k (upd Q p.1.win r)).2.1 ∧ (nextM S cmpT S.n p t).2.1.1.e = 0) ∧
        ((runF S.n en k (upd Q p.1.win r)).1 = [] → (nextM S cmpT S.n p t).1 = ((0, 0), false, (runF S.n en k (upd Q p.1.win r)).2.1) ∧ Tell S en St tot Fin (nextM S cmpT S.n p t).2.1 (nextM S cmpT S.n p t).2.2 c [] (runF S.n en k (upd Q p.1.win r)).2.1 ∧ (nextM S cmpT S.n p t).2.1.1.ov = true) := by
      intro hx sx t' R' hm hR' ho hsx hF'
      have hq : qM S cmpT S.n p t = (0, playsM cmpT S.n { p.1 with hd := p.1.hd.set p.1.win hx, sm := p.1.sm.set p.1.win sx } p.2 p.1.win, t') := by
        unfold qM; rw [if_pos hbg, hm, if_neg (by simp)]
      have hA : ∀ i j, i ≠ p.1.win → j ≠ p.1.win → aheadM cmpT { p.1 with hd := p.1.hd.set p.1.win hx, sm := p.1.sm.set p.1.win sx } i j = aheadM cmpT p.1 i j := by
        intro i j hi hj
        unfold aheadM
        simp only
        rw [getB_set (by rw [hrel.ok2]; exact hw), getB_set (by rw [hrel.ok2]; exact hw), getT_set (by rw [hrel.ok1]; exact hw), getT_set (by rw [hrel.ok1]; exact hw), if_neg hi, if_neg hj, if_neg hi, if_neg hj]
      have hinv := Ch.again hw htop hA
      obtain ⟨i1, i2⟩ := playsM_inv (aheadT_asym _) (by omega : S.n ≤ p.2.length) hinv hw (by simp)
      obtain ⟨b1, b2, b3, b4, b5⟩ := playsM_keep (cmp := cmpT) (n := S.n) (s := { p.1 with hd := p.1.hd.set p.1.win hx, sm := p.1.sm.set p.1.win sx }) (l := p.2) (i := p.1.win)
      obtain ⟨l1, l2⟩ := playsM_len (cmp := cmpT) (n := S.n) (s := { p.1 with hd := p.1.hd.set p.1.win hx, sm := p.1.sm.set p.1.win sx }) (l := p.2) hw hv (by omega)
      refine next_pick (c := c) (tot := tot) (Fin := Fin) (k := k) (en := en) (St := St) (Q := upd Q p.1.win r) (Q0 := Q0) hov hq (b1.trans hbg) (b2.trans hov) (b3.trans he) (fun _ => ?_) (l1.trans hl) l2 (Rel.same (s := { p.1 with hd := p.1.hd.set p.1.win hx, sm := p.1.sm.set p.1.win sx }) ?_ b4 b5) hk (by omega) hF'
      · unfold Top
        rw [aheadM_congr b4 b5]
        exact i2 fun j hj => by by_cases h : j = p.1.win <;> simp [h]
      · refine ⟨by simp [hrel.ok1], by simp [hrel.ok2], R', hR', fun i hi => ?_, fun i h1 h2 => by omega⟩
        by_cases hiw : i = p.1.win
        · subst hiw
          rw [getB_set (by rw [hrel.ok2]; exact hw), if_pos rfl, getT_set (by rw [hrel.ok1]; exact hw), if_pos rfl, upd_same]
          refine ⟨fun hb => ?_, fun hb => ?_⟩
          · obtain ⟨r', e1, e2⟩ := hsx.1 hb; exact ⟨r', e1, e2⟩
          · exact hsx.2 hb
        · rw [getB_set (by rw [hrel.ok2]; exact hw), if_neg hiw, getT_set (by rw [hrel.ok1]; exact hw), if_neg hiw, upd_ne _ _ hiw, ho i hiw]
          exact h1 i hi
    cases r with
    | nil =>
      obtain ⟨a1, a2⟩ := hS.nil t R _ hw hR e1
      by_cases hen : en p.1.win = 0
      · have hm : asksM S cmpT p.1 t p.1.win = (0, { p.1 with hd := p.1.hd.set p.1.win (S.ask t p.1.win).1.1, sm := p.1.sm.set p.1.win false }, (S.ask t p.1.win).2) := by
          unfold asksM
          rw [a1]
          simp only
          rw [if_neg (by simpa using hen), if_neg (by simp)]
        have hcf : contF S.n en k Q p.1.win (getT p.1.hd p.1.win) [] = runF S.n en k (upd Q p.1.win []) := by unfold contF; simp [hen]
        rw [hcf] at hF ⊢
        exact go _ _ _ _ hm a2 (fun i hi => upd_ne _ _ hi) ⟨(fun h => by cases h), fun _ => ⟨upd_same .., rfl⟩⟩ hF
      · have hm : asksM S cmpT p.1 t p.1.win = (en p.1.win, { p.1 with ov := true, e := en p.1.win }, (S.ask t p.1.win).2) := by
          unfold asksM
          rw [a1]
          simp only
          rw [if_pos (by simpa using hen)]
        have hq : qM S cmpT S.n p t = (en p.1.win, ({ p.1 with ov := true, e := en p.1.win }, p.2), (S.ask t p.1.win).2) := by
          unfold qM; rw [if_pos hbg, hm, if_pos hen]
        have hcf : contF S.n en k Q p.1.win (getT p.1.hd p.1.win) [] = ([], en p.1.win, upd Q p.1.win []) := by unfold contF; simp [hen]
        rw [hcf] at hF ⊢
        exact bad _ _ _ _ _ hov hq hen rfl hbg rfl ⟨_, a2, hF _ (rq' _ _ (.inl ⟨upd_same .., upd_same ..⟩) fun i hi => ⟨upd_ne _ _ hi, upd_ne _ _ hi⟩)⟩ rfl rfl
    | cons y r =>
      obtain ⟨a1, a2⟩ := hS.one t R _ y r hw hR e1
      by_cases hlt : y.1 < (getT p.1.hd p.1.win).1
      · have hm : asksM S cmpT p.1 t p.1.win = (61, { p.1 with ov := true, e := 61 }, (S.ask t p.1.win).2) := by
          unfold asksM
          rw [a1]
          simp only
          rw [if_neg (by simp), if_pos (by simp [hg, cmpT, hlt])]
        have hq : qM S cmpT S.n p t = (61, ({ p.1 with ov := true, e := 61 }, p.2), (S.ask t p.1.win).2) := by
          unfold qM; rw [if_pos hbg, hm, if_pos (by simp)]
        have hcf : contF S.n en k Q p.1.win (getT p.1.hd p.1.win) (y :: r) = ([], 61, upd Q p.1.win (y :: r)) := by unfold contF; simp [hlt]
        rw [hcf] at hF ⊢
        exact bad _ _ _ _ _ hov hq (by decide) rfl hbg rfl ⟨_, a2, hF _ (rq' _ _ (.inr ⟨y, r, upd_same .., upd_same ..⟩) fun i hi => ⟨upd_ne _ _ hi, upd_ne _ _ hi⟩)⟩ rfl rfl
      · have hm : asksM S cmpT p.1 t p.1.win = (0, { p.1 with hd := p.1.hd.set p.1.win y, sm := p.1.sm.set p.1.win true }, (S.ask t p.1.win).2) := by
          unfold asksM
          rw [a1]
          simp only
          rw [if_neg (by simp), if_neg]
          simp only [hg, cmpT, hlt, if_false]
          split <;> simp
        have hcf : contF S.n en k Q p.1.win (getT p.1.hd p.1.win) (y :: r) = runF S.n en k (upd Q p.1.win (y :: r)) := by unfold contF; simp [hlt]
        rw [hcf] at hF ⊢
        exact go _ _ _ _ hm a2 (fun i hi => upd_ne _ _ hi) ⟨fun _ => ⟨r, upd_same .., rfl⟩, (fun h => by cases h)⟩ hF
end
end Go.Proofs.Ytfhojgammfkabaa
