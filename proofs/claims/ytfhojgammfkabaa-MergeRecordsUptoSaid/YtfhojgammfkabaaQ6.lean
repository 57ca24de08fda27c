/- Tidied sources, and what a run over a list of sources answers: one package. -/
import Derived.Test.YtfhojgammfkabaaQ5
import Derived.Test.YtfhojgammfkabaaP1
namespace Go.Proofs.Ytfhojgammfkabaa
open Go.Vw

/-- lists by number -/
def LQ (Ts : List (List Thing)) (i : Nat) : List Thing := Ts[i]?.getD []
/-- the errors at the ends -/
def EQ (xs : List (Sl × Int)) (i : Nat) : Int := (xs[i]?.map (·.2)).getD 0
/-- sources that can be read -/
structure SrcsAt (w : World) (s : Sl) (xs : List (Sl × Int)) (Ts : List (List Thing)) : Prop where
  rd : RdS w ES s xs
  len : Ts.length = xs.length
  each : ∀ (i : Nat) x L, xs[i]? = some x → Ts[i]? = some L → RdS w ET x.1 L ∧ ∀ b, rk x.1 b → b < w.heap.size
theorem _root_.Go.Vw.RdS.rk_lt {α : Type} {w : World} {E : Enc α} {s : Sl} {l : List α} (h : RdS w E s l) (hne : l ≠ []) {b : Nat} (hb : rk s b) : b < w.heap.size := by
  obtain ⟨x, hx⟩ : ∃ x, l[0]? = some x := by cases l with | nil => exact absurd rfl hne | cons x t => exact ⟨x, rfl⟩
  obtain ⟨b', o', hp, _, hc⟩ := h.at hx
  obtain ⟨_, o, hb⟩ := hb
  rw [hp] at hb; cases hb
  have h0 := hc 0 E.pos
  rw [List.getElem?_eq_getElem (by rw [E.len]; exact E.pos)] at h0
  exact cell_lt h0
theorem _root_.Go.Vw.RdS.keepF {α : Type} {w w' : World} {E : Enc α} {s : Sl} {l : List α} (h : RdS w E s l) {D : Nat → Prop} (hM : Mod D w w') (hd : ∀ b, b < w.heap.size → ¬ D b) : RdS w' E s l := by
  by_cases h0 : l = []
  · subst h0; exact ⟨h.len, .inl rfl, h.has⟩
  · exact h.keep hM fun b hb => hd b (h.rk_lt h0 hb)
theorem SrcsAt.keep {w w' : World} {s : Sl} {xs : List (Sl × Int)} {Ts : List (List Thing)} (h : SrcsAt w s xs Ts) (hM : Mod (fun _ => False) w w') : SrcsAt w' s xs Ts :=
  ⟨h.rd.keep hM fun _ _ => id, h.len, fun i x L h1 h2 => ⟨(h.each i x L h1 h2).1.keep hM fun _ _ => id, fun b hb => Nat.lt_of_lt_of_le ((h.each i x L h1 h2).2 b hb) hM.size⟩⟩
/-- sources are played and merged -/
theorem feedrun_ok {w : World} {s : Sl} {xs : List (Sl × Int)} {Ts : List (List Thing)} (h : SrcsAt w s xs Ts) (hn : xs.length ≤ 64) (htot : remQ (LQ Ts) xs.length ≤ 1048576)
    {K : Sl → Int → Bool → World → Prop} (hK : ∀ out w', RdS w' ET out (runM xs.length (EQ xs) (LQ Ts)).1 → (∀ b, bk out b → w.heap.size ≤ b) → Mod (fun _ => False) w w' → K out (runM xs.length (EQ xs) (LQ Ts)).2 true w') :
    callK Try.prog 20 [.leaf (.sl s)] w (.one (.leaf .sl)) fun a w1 => callK Try.prog 19 [.leaf (.sl a)] w1 (.tup [.leaf .sl, .leaf (.int .i64), .leaf .bool]) K := by
  have hLlen : ∀ L ∈ Ts, L.length ≤ 1048576 := fun L hL => by
    obtain ⟨i, hi⟩ := List.mem_iff_getElem?.1 hL
    have hil : i < xs.length := by have := (List.getElem?_eq_some_iff.1 hi).1; rw [h.len] at this; exact this
    have hmono : ∀ m, i < m → L.length ≤ remQ (LQ Ts) m := by
      intro m
      induction m with
      | zero => intro h; omega
      | succ m ih =>
        intro hm
        rw [remQ]
        by_cases e : i = m
        · subst e
          have : LQ Ts i = L := by unfold LQ; rw [hi]; rfl
          rw [this]; omega
        · have := ih (by omega); omega
    have := hmono _ hil
    omega
  refine feeds_f h.rd Ts h.len (fun i x l h1 h2 => (h.each i x l h1 h2).1) (by omega) (fun L hL => by have := hLlen L hL; omega) w.heap.size (Nat.le_refl _) (fun x hx b hb => ?_) fun a w1 fbs hok hI hv hbk hge M1 => ?_
  · obtain ⟨i, hi⟩ := List.mem_iff_getElem?.1 hx
    have hil := (List.getElem?_eq_some_iff.1 hi).1
    exact (h.each i x _ hi (List.getElem?_eq_getElem (by rw [h.len]; exact hil))).2 b hb
  refine run_ok hok hv.rd hI hn htot M1.size fun out w2 hout hob M2 => ?_
  refine hK out w2 hout (fun b hb => Nat.le_trans M1.size (hob b hb)) (Mod.fresh M1 M2 fun x hx hb => ?_)
  obtain ⟨i, hi, e⟩ := hb
  have := hge i hi
  omega
/-- sources as tidy leaves them -/
structure TidyAt (w : World) (s : Sl) (zs : List (Sl × Int)) (Ts : List (List Thing)) : Prop where
  src : SrcsAt w s zs Ts
  zero : ∀ z ∈ zs, z.2 = 0
  n : zs.length ≤ 64
  rem : remQ (LQ Ts) zs.length ≤ 1048000
  sorted : Sorted zs.length (LQ Ts)
  names : ∀ x ∈ cat (LQ Ts) zs.length, 0 ≤ x.2 ∧ x.2 < (remQ (LQ Ts) zs.length : Nat)
  nodup : ((cat (LQ Ts) zs.length).map (·.2)).Nodup
theorem TidyAt.keep {w w' : World} {s : Sl} {xs : List (Sl × Int)} {Ts : List (List Thing)} (h : TidyAt w s xs Ts) (hM : Mod (fun _ => False) w w') : TidyAt w' s xs Ts := ⟨h.src.keep hM, h.zero, h.n, h.rem, h.sorted, h.names, h.nodup⟩
theorem TidyAt.en {w : World} {s : Sl} {zs : List (Sl × Int)} {Ts : List (List Thing)} (h : TidyAt w s zs Ts) : EQ zs = fun _ => 0 := by
  funext i
  show (zs[i]?.map (·.2)).getD 0 = 0
  cases hzi : zs[i]? with
  | none => rfl
  | some z => exact h.zero z (List.mem_of_getElem? hzi)
theorem tidied_ok {w : World} {fr : Sl} {ys : List (Sl × Int)} {Ls : List (List Thing)} (hf : RdS w ES fr ys) (hlen : Ls.length = ys.length) (hLs : ∀ (i : Nat) y L, ys[i]? = some y → Ls[i]? = some L → RdS w ET y.1 L) (hb : lens Ls Ls.length ≤ 1048000) (hb2 : ys.length ≤ 1048576)
    {K : Sl → World → Prop} (hK : ∀ out w' zs Ts, TidyAt w' out zs Ts → Mod (fun _ => False) w w' → K out w') : callK Try.prog 18 [.leaf (.sl fr)] w (.one (.leaf .sl)) K := by
  refine tidy_ok hf hlen hLs hb hb2 fun a2 w1 zs hz hzl hzz M1 => ?_
  have hN : zs.length ≤ Ls.length := by rw [hzl, hlen]; omega
  let Ts := (tidyM 0 Ls).take zs.length
  have hTl : Ts.length = zs.length := by simp [Ts, tidyM_length]; omega
  have hTi : ∀ i, i < zs.length → Ts[i]? = (tidyM 0 Ls)[i]? := fun i hi => by simp [Ts, List.getElem?_take, hi]
  have hQ : ∀ i, i < zs.length → LQ Ts i = TQ Ls i := fun i hi => by unfold LQ TQ; rw [hTi i hi]
  have hrem : ∀ m, m ≤ zs.length → remQ (LQ Ts) m = lens Ls m := by
    intro m
    induction m with
    | zero => intro _; rfl
    | succ m ih => intro hm; rw [remQ, ih (by omega), hQ m (by omega), TQ_eq (by omega), nameT_length, sortT_length, lens]
  refine hK a2 w1 zs Ts ⟨⟨hz, hTl, fun i z L h1 h2 => ?_⟩, fun z hz => ?_, by omega, ?_, ?_, fun x hx => ?_, ?_⟩ M1
  · obtain ⟨_, L', e, hr, hlt⟩ := hzz i z h1
    rw [hTi i (List.getElem?_eq_some_iff.1 h1).1, e] at h2
    cases h2
    exact ⟨hr, fun b hb => hlt b hb.2⟩
  · obtain ⟨i, hi⟩ := List.mem_iff_getElem?.1 hz
    exact (hzz i z hi).1
  · rw [hrem _ (Nat.le_refl _)]
    exact Nat.le_trans (lens_mono Ls (i := zs.length) (j := Ls.length) hN) hb
  · exact ⟨fun i hi => by rw [hQ i hi]; exact (TQ_sorted hN).each i hi, fun i j hij hj x hx y hy => by rw [hQ i (by omega)] at hx; rw [hQ j hj] at hy; exact (TQ_sorted hN).rise i j hij hj x hx y hy⟩
  · obtain ⟨i, hi, hm⟩ := mem_cat.1 hx
    rw [hQ i hi] at hm
    have h1 := TQ_names (by omega) hm
    have h2 := lens_mono Ls (i := i + 1) (j := zs.length) (by omega)
    rw [hrem _ (Nat.le_refl _)]
    omega
  · have hc : (cat (LQ Ts) zs.length).Pairwise fun x y => x.2 < y.2 := cat_rise (n := zs.length) (fun i hi => by rw [hQ i hi, TQ_eq (by omega)]; exact nameT_rise _ _) (fun i j hij hj x hx y hy => by
      rw [hQ i (by omega)] at hx; rw [hQ j hj] at hy; exact (TQ_sorted hN).rise i j hij hj x hx y hy) _ (Nat.le_refl _)
    unfold List.Nodup
    rw [List.pairwise_map]
    exact hc.imp fun h e => by rw [e] at h; exact Int.lt_irrefl _ h
/-- what is stable, of tidied sources -/
theorem stable_tidy {w : World} {s l : Sl} {zs : List (Sl × Int)} {Ts : List (List Thing)} (h : TidyAt w s zs Ts) {xs : List Thing} (hl : RdS w ET l xs) (hs : xs.Pairwise ltT) (hp : xs.Perm (cat (LQ Ts) zs.length))
    {K : Bool → World → Prop} (hK : ∀ w', Mod (fun _ => False) w w' → K true w') : callK Try.prog 21 [.leaf (.sl l), .leaf (.sl s)] w (.one (.leaf .bool)) K := by
  have hrl : ∀ m, remQ (LQ Ts) m = lens Ts m := by
    intro m
    induction m with
    | zero => rfl
    | succ m ih => rw [remQ, lens, ih]; rfl
  have hlen : xs.length = remQ (LQ Ts) zs.length := by rw [hp.length_eq, cat_length]
  have hrem := h.rem
  have hn := h.n
  refine stable_ok hl h.src.rd h.src.len (fun i y L h1 h2 => (h.src.each i y L h1 h2).1) (by rw [hlen, h.src.len, hrl]) (by omega) (by omega) hs (fun x hx => ?_) ((hp.map (·.2)).nodup_iff.2 h.nodup) (fun L hL y hy => ?_) hK
  · rw [hlen]; exact h.names x (hp.mem_iff.1 hx)
  · obtain ⟨i, hi⟩ := List.mem_iff_getElem?.1 hL
    have hil := (List.getElem?_eq_some_iff.1 hi).1
    refine hp.mem_iff.2 (mem_cat.2 ⟨i, by rw [← h.src.len]; exact hil, ?_⟩)
    unfold LQ; rw [hi]; exact hy
/-- a slice that is read, cut -/
theorem _root_.Go.Vw.RdS.cut {α : Type} {w : World} {E : Enc α} {s : Sl} {l : List α} (h : RdS w E s l) {n : Nat} (hn : n ≤ l.length) (sz : Nat) : RdS w E (s.cut sz 0 n s.cap) (l.take n) ∧ ∀ b, rk (s.cut sz 0 n s.cap) b → rk s b := by
  obtain ⟨p, len, cap⟩ := s
  have hlen := h.len
  have hhas := h.has
  simp only at hlen hhas
  have e : Sl.cut ⟨p, len, cap⟩ sz 0 n cap = ⟨p, n, cap⟩ := by
    unfold Sl.cut
    by_cases hc : cap = 0
    · subst hc; simp
    · simp only [if_neg hc, Nat.zero_mul, Nat.add_zero, Nat.sub_zero]
      congr 1
      cases p <;> rfl
  simp only [e]
  refine ⟨⟨by simp; omega, ?_, by simp only; omega⟩, fun b hb => hb⟩
  rcases h.rd with h0 | ⟨b, o, hp, hr⟩
  · have hl0 : l = [] := by
      cases l with
      | nil => rfl
      | cons x t =>
        have := congrArg List.length h0
        rw [E.cells_length, List.length_nil] at this
        have hpos := E.pos
        rcases Nat.mul_eq_zero.1 this with h | h
        · cases h
        · omega
    subst hl0
    left; simp [Enc.cells]
  · refine .inr ⟨b, o, hp, fun i hi => ?_⟩
    have h1 : E.cells l = E.cells (l.take n) ++ E.cells (l.drop n) := by rw [← E.cells_append, List.take_append_drop]
    have h2 : (E.cells l)[i]? = (E.cells (l.take n))[i]? := by rw [h1, List.getElem?_append_left hi]
    rw [← h2]
    refine hr i ?_
    rw [h1, List.length_append]; omega
theorem _root_.Go.Vw.RdS.slx {α : Type} {w : World} {E : Enc α} {s : Sl} {l : List α} (h : RdS w E s l) {n : Nat} (hn : n ≤ l.length) (sz : Nat) {K : Sl → Prop} (hK : K (s.cut sz 0 n s.cap)) : Go.Vw.slx s sz none (some (n : Int)) none K :=
  ⟨0, n, s.cap, rfl, rfl, rfl, Nat.zero_le _, by have := h.has; have := h.len; omega, Nat.le_refl _, hK⟩
end Go.Proofs.Ytfhojgammfkabaa
