/- The reference's answer, walked: it is the plain answer. -/
import Derived.Test.YtfhojgammfkabaaT0
namespace Go.Proofs.Ytfhojgammfkabaa
open Go.Vw

theorem _root_.Go.Vw.At.notKs {w0 w : World} {D : Nat → Prop} {m ro : List (Nat × List Value)} (hA : At w0 D (m ++ ro) w) {p : Nat × List Value} (hp : p ∈ m) : ¬ Ks ro p.1 := by
  have hnd := hA.nodup
  rw [List.map_append, List.nodup_append] at hnd
  rintro ⟨q, hq, e⟩
  exact hnd.2.2 _ (List.mem_map_of_mem hp) _ (List.mem_map_of_mem hq) e.symm
def bestI : Option Nat → Int
  | none => -1
  | some b => (b : Nat)
theorem bestI_neg (b : Nat) : decide (bestI (some b) < 0) = false := by
  refine decide_eq_false ?_
  show ¬ ((b : Nat) : Int) < 0
  omega
/-- does the list begin with something less? -/
def lessHd (x : Thing) : List Thing → Bool
  | [] => false
  | y :: _ => decide (y.1 < x.1)
theorem ref_run {w : World} {fr : Sl} {xs : List (Sl × Int)} {Ts : List (List Thing)} (h : SrcsAt w fr xs Ts) (hn : xs.length ≤ 1048576) (htot : remQ (LQ Ts) xs.length ≤ 1048576)
    {K : Sl → Int → Sl → World → Prop} (hK : ∀ out aks w', RdS w' ET out (runM xs.length (EQ xs) (LQ Ts)).1 → RdS w' EI aks ((List.range xs.length).map fun i => ((asksF xs.length (EQ xs) (LQ Ts) i : Nat) : Int)) →
      (∀ b, bk out b → w.heap.size ≤ b) → (∀ b, bk aks b → w.heap.size ≤ b) → Mod (fun _ => False) w w' → K out (runM xs.length (EQ xs) (LQ Ts)).2 aks w') :
    callK Try.prog 26 [.leaf (.sl fr)] w (.tup [.agg [.sl, .int .i64], .leaf .sl]) K := by
  generalize hnn : xs.length = n at hn htot hK
  generalize hL : LQ Ts = L at htot hK
  generalize hen : EQ xs = en at hK
  have hlen : fr.len = n := by rw [h.rd.len, hnn]
  have hx : ∀ i, i < n → ∃ z : Sl × Int, xs[i]? = some z ∧ z.2 = en i ∧ RdS w ET z.1 (L i) ∧ ∀ b, rk z.1 b → b < w.heap.size := fun i hi => by
    have h1 : xs[i]? = some (xs[i]'(by omega)) := List.getElem?_eq_getElem (by omega)
    have h2 : Ts[i]? = some (L i) := by rw [← hL]; unfold LQ; rw [List.getElem?_eq_getElem (by rw [h.len]; omega)]; rfl
    obtain ⟨e1, e2⟩ := h.each i _ _ h1 h2
    refine ⟨_, h1, ?_, e1, e2⟩
    rw [← hen]; unfold EQ; rw [h1]; rfl
  have hLn : ∀ m, m ≤ n → ∀ i, i < m → (L i).length ≤ remQ L m := by
    intro m
    induction m with
    | zero => intro _ i hi; omega
    | succ m ih =>
      intro hm i hi
      rw [remQ]
      by_cases e : i = m
      · subst e; omega
      · have := ih (by omega) i (by omega); omega
  have hLi : ∀ i, i < n → (L i).length ≤ 1048576 := fun i hi => by have := hLn n (Nat.le_refl _) i hi; omega
  have frlt : ∀ b, rk fr b → 0 < n → b < w.heap.size := fun b hb h0 => h.rd.rk_lt (by intro e; rw [e] at hnn; simp at hnn; omega) hb
  -- a source's list, its error
  have ixL : ∀ {w' : World} (hM : Mod (fun _ => False) w w') {i : Nat} (hi : i < n) {X : Sl → Prop}, (∀ z, RdS w' ET z (L i) → (∀ b, rk z b → b < w.heap.size) → X z) → Go.Vw.ix fr 2 (i : Int) fun b o => Go.Vw.ld w' .sl b o X := fun {w'} hM {i} hi {X} hX => by
    obtain ⟨z, z1, z2, z3, z4⟩ := hx i hi
    exact (h.rd.keep hM fun _ _ => id).ix rfl rfl z1 fun b o _ hc => ld_cell (k := .sl) z.1 (hc 0 (by decide)) (hX _ (z3.keep hM fun _ _ => id) z4)
  have ixLD : ∀ {w' : World} {E : Nat → Prop} (hE : ∀ b, b < w.heap.size → ¬ E b) (hM : Mod (fun _ => False) w w') {i : Nat} (hi : i < n) {X : Sl → Prop}, (∀ z, RdS w' ET z (L i) → (∀ b, rk z b → b < w.heap.size) → X z) → Go.Vw.ix fr 2 (i : Int) fun b o => Go.Vw.ldD E w' .sl b o X := fun {w' E} hE hM {i} hi {X} hX => by
    obtain ⟨z, z1, z2, z3, z4⟩ := hx i hi
    exact (h.rd.keep hM fun _ _ => id).ix rfl rfl z1 fun b o hb hc => ldD_cell (k := .sl) z.1 (hE b (frlt b hb (by omega))) (hc 0 (by decide)) (hX _ (z3.keep hM fun _ _ => id) z4)
  have ixN : ∀ {w' : World} (hM : Mod (fun _ => False) w w') {i : Nat} (hi : i < n) {X : Int → Prop}, X (en i) → Go.Vw.ix fr 2 (i : Int) fun b o => Go.Vw.ld w' (.int .i64) b (o + 1) X := fun {w'} hM {i} hi {X} hX => by
    obtain ⟨z, z1, z2, z3, z4⟩ := hx i hi
    exact (h.rd.keep hM fun _ _ => id).ix rfl rfl z1 fun b o _ hc => ld_cell (k := .int .i64) (en i) (by rw [← z2]; exact hc 1 (by decide)) hX
  have ixND : ∀ {w' : World} {E : Nat → Prop} (hE : ∀ b, b < w.heap.size → ¬ E b) (hM : Mod (fun _ => False) w w') {i : Nat} (hi : i < n) {X : Int → Prop}, X (en i) → Go.Vw.ix fr 2 (i : Int) fun b o => Go.Vw.ldD E w' (.int .i64) b (o + 1) X := fun {w' E} hE hM {i} hi {X} hX => by
    obtain ⟨z, z1, z2, z3, z4⟩ := hx i hi
    exact (h.rd.keep hM fun _ _ => id).ix rfl rfl z1 fun b o hb hc => ldD_cell (k := .int .i64) (en i) (hE b (frlt b hb (by omega))) (by rw [← z2]; exact hc 1 (by decide)) hX
  refine go_winnowref11_Run _ _ _ ?_
  unfold S_winnowref11_Run
  refine (At.init w fun _ => False).alK fun b2 w1 _ h1 _ => h1.alK fun b4 w2 _ h2 _ => ?_
  rw [hlen]
  refine Vec.mkK EI 0 n rfl rfl (by omega) (by omega) fun w3 _ hb3 M3 => ?_
  have h3 := h2.mkAdd M3 hb3 (Nat.le_refl _)
  generalize w2.heap.size = ba at h3 ⊢
  refine Vec.mkK EI 0 n rfl rfl (by omega) (by omega) fun w4 _ hb4 M4 => ?_
  have h4 := h3.mkAdd M4 hb4 (Nat.le_refl _)
  generalize w3.heap.size = bs at h4 ⊢
  have h4 : At w (fun _ => False) [(b2, [(LV.sl ⟨none, 0, 0⟩).toV, .int .i64 0]), (b4, [(LV.sl ⟨none, 0, 0⟩).toV, .int .i64 0]), (ba, gC n fun _ => 0), (bs, gC n fun _ => 0)] w4 := by
    rw [gC_zero] at h4; exact h4
  -- the way out
  have fin : ∀ (sv : Sl) (e : Int) (l : List Thing) (ro : List (Nat × List Value)) (g : Nat → Nat) (c : List Value) (w' : World), c.length = 2 → At w (fun _ => False) ([(b2, c), (b4, [(LV.sl sv).toV, .int .i64 e])] ++ [(bs, gC n g)] ++ ro) w' → VecE ro ET sv l → l = (runM n en L).1 → e = (runM n en L).2 → (∀ i, i < n → g i = asksF n en L i) →
      Go.Vw.ld w' .sl b4 0 fun a79 => Go.Vw.ld w' (.int .i64) b4 1 fun n80 => Go.Vw.st w' b2 0 [.sl a79, .int .i64 n80] fun w_81 => Go.Vw.ld w_81 .sl b2 0 fun a82 => Go.Vw.ld w_81 (.int .i64) b2 1 fun n83 => K a82 n83 ⟨some (bs, 0), n, n⟩ w_81 := by
    intro sv e l ro g c w' hcl hA hv hl he hg
    have hcc : ∃ u v, c = [u, v] := by
      match c, hcl with
      | [u, v], _ => exact ⟨u, v, rfl⟩
    obtain ⟨u, v, rfl⟩ := hcc
    refine hA.ld 1 (k := .sl) sv rfl rfl (hA.ld 1 (k := .int .i64) e rfl rfl ?_)
    refine hA.st 0 rfl (Nat.le_refl 2) fun w6 hA6 _ => ?_
    have hA6 : At w (fun _ => False) ([(b2, [(LV.sl sv).toV, .int .i64 e]), (b4, [(LV.sl sv).toV, .int .i64 e])] ++ [(bs, gC n g)] ++ ro) w6 := hA6
    refine hA6.ld 0 (k := .sl) sv rfl rfl (hA6.ld 0 (k := .int .i64) e rfl rfl ?_)
    rw [he]
    have hge : ∀ p ∈ ([(b2, [(LV.sl sv).toV, .int .i64 e]), (b4, [(LV.sl sv).toV, .int .i64 e])] ++ [(bs, gC n g)] ++ ro), w.heap.size ≤ p.1 := fun p hp => Nat.not_lt.1 fun hlt => hA6.wr p hp hlt
    refine hK sv _ w6 (by rw [← hl]; exact (VecE.of_at hA6 hv).rd) ⟨by simp, .inr ⟨bs, 0, rfl, fun i hi => ?_⟩, Nat.le_refl _⟩ (fun b hb => ?_) (fun b hb => ?_) hA6.mod
    · rw [gC_cells, ← gC_congr hg, (hA6.own (bs, gC n g) (by simp)).cell, Nat.zero_add]
    · obtain ⟨q, hq, e'⟩ := hv.key hb
      rw [← e']; exact hge q (List.mem_append_right _ hq)
    · obtain ⟨o, hb⟩ := hb
      cases hb
      exact hge (bs, gC n g) (by simp)
  refine join0 (fun w' => At w (fun _ => False) [(b2, [(LV.sl ⟨none, 0, 0⟩).toV, .int .i64 0]), (b4, [(LV.sl ⟨none, 0, 0⟩).toV, .int .i64 0]), (ba, gC n fun _ => 0), (bs, gC n fun _ => 1)] w' ∧ firstE L en n 0 = none) (fun k hk => ?_) ?_
  · refine loop1 (k := .int .i64) (fun x w' => ∃ i : Nat, x = i ∧ i ≤ n ∧ At w (fun _ => False) [(b2, [(LV.sl ⟨none, 0, 0⟩).toV, .int .i64 0]), (b4, [(LV.sl ⟨none, 0, 0⟩).toV, .int .i64 0]), (ba, gC n fun _ => 0), (bs, gC n fun j => if j < i then 1 else 0)] w' ∧ ∀ a, a < i → ¬ (L a = [] ∧ en a ≠ 0)) (fun x _ => n - x.toNat) rfl ⟨0, rfl, Nat.zero_le _, h4, fun a ha => by omega⟩ ?_
    rintro x w5 ⟨i, rfl, hi, hA, hno⟩
    refine ifK_intro (fun hlt => ?_) (fun hlt => ?_)
    · have hlt' : i < n := by simpa using hlt
      refine ixg hA 3 rfl hlt' (ixgS hA 3 rfl hlt' (k := 1) (by rw [if_neg (by omega)]; rfl) fun w6 hA6 _ => ?_)
      have hA6 : At w (fun _ => False) [(b2, [(LV.sl ⟨none, 0, 0⟩).toV, .int .i64 0]), (b4, [(LV.sl ⟨none, 0, 0⟩).toV, .int .i64 0]), (ba, gC n fun _ => 0), (bs, gC n fun j => if j < i + 1 then 1 else 0)] w6 := by
        have e : upd (fun j => if j < i then 1 else 0) i 1 = fun j => if j < i + 1 then 1 else 0 := by
          funext j
          unfold upd
          by_cases h1 : j = i
          · subst h1; simp
          · rw [if_neg h1]
            show (if j < i then 1 else 0) = _
            by_cases h2 : j < i
            · rw [if_pos h2, if_pos (by omega)]
            · rw [if_neg h2, if_neg (by omega)]
        rw [e] at hA6; exact hA6
      refine join1 (a := .bool) (fun b w' => w' = w6 ∧ b = decide (L i = [] ∧ en i ≠ 0)) (fun k2 hk2 => ?_) ?_
      · refine ixL hA6.mod hlt' fun z hz _ => ?_
        refine ifK_intro (fun h0 => ixN hA6.mod hlt' (hk2 _ _ ⟨rfl, ?_⟩)) (fun h0 => hk2 _ _ ⟨rfl, ?_⟩)
        · have : L i = [] := by
            have : (z.len : Int) = 0 := by simpa using h0
            rw [hz.len] at this
            exact List.eq_nil_of_length_eq_zero (by omega)
          by_cases he : en i = 0 <;> simp [this, he]
        · have : L i ≠ [] := by
            intro e
            have : ¬ (z.len : Int) = 0 := by simpa using h0
            rw [hz.len, e] at this; exact this rfl
          simp [this]
      rintro _ w7 ⟨hw7, rfl⟩
      rw [hw7]
      refine ifK_intro (fun hd => ?_) (fun hd => ?_)
      · have hd' : L i = [] ∧ en i ≠ 0 := of_decide_eq_true hd
        have hfe := firstE_at hlt' hd' hno
        refine ixN hA6.mod hlt' ?_
        refine hA6.st 1 rfl (Nat.le_refl 2) fun w8 hA8 _ => ?_
        have hA8 : At w (fun _ => False) [(b2, [(LV.sl ⟨none, 0, 0⟩).toV, .int .i64 0]), (b4, [(LV.sl ⟨none, 0, 0⟩).toV, .int .i64 (en i)]), (ba, gC n fun _ => 0), (bs, gC n fun j => if j < i + 1 then 1 else 0)] w8 := hA8
        refine fin ⟨none, 0, 0⟩ (en i) [] [] (fun j => if j < i + 1 then 1 else 0) [(LV.sl ⟨none, 0, 0⟩).toV, .int .i64 0] w8 rfl (hA8.sub ?_) (VecE.nil _) ?_ ?_ ?_
        · exact .cons_cons _ (.cons_cons _ (.cons _ (.cons_cons _ (List.nil_sublist _))))
        · unfold runM; rw [hfe]
        · unfold runM; rw [hfe]
        · intro a ha
          unfold asksF; rw [hfe]
          by_cases h1 : a ≤ i
          · simp only; rw [if_pos h1, if_pos (by omega)]
          · simp only; rw [if_neg h1, if_neg (by omega)]
      · have hd' : ¬ (L i = [] ∧ en i ≠ 0) := of_decide_eq_false hd
        rw [set_step (by omega)]
        refine ⟨⟨i + 1, rfl, hlt', hA6, fun a ha => ?_⟩, by simp; omega⟩
        by_cases e : a = i
        · subst e; exact hd'
        · exact hno a (by omega)
    · have hge : i = n := by have : ¬ i < n := by simpa using hlt
                             omega
      subst hge
      refine hk _ ⟨?_, firstE_no hno⟩
      rw [gC_congr (n := i) (g := fun j => if j < i then 1 else 0) (g' := fun _ => 1) (fun j hj => by rw [if_pos hj])] at hA
      exact hA
  rintro w38 ⟨hA38, hfe⟩
  have hrunM : runM n en L = ((runF n en (remQ L n) L).1, (runF n en (remQ L n) L).2.1) := by unfold runM; rw [hfe]
  have hasks : ∀ i, asksF n en L i = (L i).length - ((runF n en (remQ L n) L).2.2 i).length + 1 := fun i => by unfold asksF; rw [hfe]
  let M (sv : Sl) (at_ : Nat → Nat) : List (Nat × List Value) := [(b2, [(LV.sl ⟨none, 0, 0⟩).toV, .int .i64 0]), (b4, [(LV.sl sv).toV, .int .i64 0]), (ba, gC n at_), (bs, gC n fun j => at_ j + 1)]
  refine loop0G (γ := (Nat → List Thing) × List Thing × (Nat → Nat) × Sl × List (Nat × List Value))
    (fun g w' => At w (fun _ => False) (M g.2.2.2.1 g.2.2.1 ++ g.2.2.2.2) w' ∧ VecE g.2.2.2.2 ET g.2.2.2.1 g.2.1 ∧ (∀ i, i < n → g.2.2.1 i ≤ (L i).length ∧ g.1 i = (L i).drop (g.2.2.1 i)) ∧
      g.2.1 ++ (runF n en (remQ g.1 n) g.1).1 = (runF n en (remQ L n) L).1 ∧ (runF n en (remQ g.1 n) g.1).2 = (runF n en (remQ L n) L).2 ∧ g.2.1.length + remQ g.1 n = remQ L n)
    (fun g => remQ g.1 n) (L, [], fun _ => 0, ⟨none, 0, 0⟩, []) ⟨by simpa [M] using hA38, VecE.nil _, fun i _ => ⟨Nat.zero_le _, rfl⟩, rfl, rfl, by simp⟩ ?_
  rintro ⟨Q, l, at_, sv, ro⟩ w40 KK ⟨hA, hv, hat, hl, he, hcount⟩ hKK
  simp only at hA hv hat hl he hcount hKK
  have hQne : ∀ i, i < n → (Q i ≠ [] ↔ at_ i < (L i).length) := fun i hi => by
    obtain ⟨a1, a2⟩ := hat i hi
    rw [a2]
    constructor
    · intro h0
      rcases Nat.lt_or_ge (at_ i) (L i).length with h' | h'
      · exact h'
      · exact absurd (List.drop_eq_nil_of_le h') h0
    · intro h0 e
      have := congrArg List.length e
      simp at this; omega
  have hQc : ∀ i, i < n → ∀ (hlt : at_ i < (L i).length), Q i = (L i)[at_ i] :: (L i).drop (at_ i + 1) := fun i hi hlt => by
    rw [(hat i hi).2]; exact List.drop_eq_getElem_cons hlt
  have hrol : ∀ b, b < w.heap.size → ¬ Ks ro b := by
    rintro b hb ⟨q, hq, rfl⟩
    exact hA.wr q (List.mem_append_right _ hq) hb
  refine join1 (a := .int .i64) (fun x w' => At w (fun _ => False) (M sv at_ ++ ro) w' ∧ x = bestI (scan Q n)) (fun k hk => ?_) ?_
  · refine loop2 (k1 := .int .i64) (k2 := .int .i64) (fun x y w' => ∃ i : Nat, y = i ∧ i ≤ n ∧ At w (fun _ => False) (M sv at_ ++ ro) w' ∧ x = bestI (scan Q i)) (fun _ y _ => n - y.toNat) rfl rfl ⟨0, rfl, Nat.zero_le _, hA, rfl⟩ ?_
    rintro x y w45 ⟨i, rfl, hi, hA5, rfl⟩
    refine ifK_intro (fun hlt => ?_) (fun hlt => ?_)
    · have hlt' : i < n := by simpa using hlt
      refine join1 (a := .bool) (fun b w' => At w (fun _ => False) (M sv at_ ++ ro) w' ∧ b = decide (Q i ≠ [] ∧ ∀ b0, scan Q i = some b0 → hdK (Q i) < hdK (Q b0))) (fun k2 hk2 => ?_) ?_
      · refine ⟨fun _ => False, ?_⟩
        have hA7 := hA5.drew
        refine ixgD hA7 2 rfl hlt' id ?_
        refine ixLD (fun _ _ => id) hA7.mod hlt' fun z hz hzl => ?_
        have hzlen := hz.len
        refine ifK_intro (fun h0 => ?_) (fun h0 => hk2 _ _ ⟨hA7, ?_⟩)
        · have hli : at_ i < (L i).length := by rw [hzlen] at h0; have : ((at_ i : Nat) : Int) < ((L i).length : Nat) := by simpa using h0
                                                omega
          have hne := (hQne i hlt').2 hli
          have hki : hdK (Q i) = ((L i)[at_ i]).1 := by rw [hQc i hlt' hli]; rfl
          cases hs : scan Q i with
          | none =>
            refine ifK_t (by simp [bestI]) (hk2 _ _ ⟨hA7, ?_⟩)
            simp [hne, hs]
          | some b0 =>
            obtain ⟨s1, s2, _⟩ := scan_some hs
            have hlb : at_ b0 < (L b0).length := (hQne b0 (by omega)).1 s2
            have hkb : hdK (Q b0) = ((L b0)[at_ b0]).1 := by rw [hQc b0 (by omega) hlb]; rfl
            refine ifK_f (bestI_neg _) ?_
            refine ixLD (fun _ _ => id) hA7.mod hlt' fun z2 hz2 _ => ixgD hA7 2 rfl hlt' id ?_
            refine hz2.ix rfl rfl (List.getElem?_eq_getElem hli) fun b o _ hc => ldD_cell (k := .int .i64) ((L i)[at_ i]).1 id (hc 0 (by decide)) ?_
            refine ixLD (fun _ _ => id) hA7.mod (by omega : b0 < n) fun z3 hz3 _ => ixgD hA7 2 rfl (by omega : b0 < n) id ?_
            refine hz3.ix rfl rfl (List.getElem?_eq_getElem hlb) fun b o _ hc => ldD_cell (k := .int .i64) ((L b0)[at_ b0]).1 id (hc 0 (by decide)) (hk2 _ _ ⟨hA7, ?_⟩)
            rw [← hki, ← hkb]
            refine decide_eq_decide.2 ⟨fun h => ⟨hne, fun b1 h1 => ?_⟩, fun h => h.2 b0 hs⟩
            rw [hs] at h1; cases h1; exact h
        · have : ¬ at_ i < (L i).length := by rw [hzlen] at h0; have : ¬ ((at_ i : Nat) : Int) < ((L i).length : Nat) := by simpa using h0
                                              omega
          have hq : ¬ Q i ≠ [] := fun h => this ((hQne i hlt').1 h)
          simp [hq]
      rintro _ w73 ⟨hA73, rfl⟩
      refine join1 (a := .int .i64) (fun x w' => At w (fun _ => False) (M sv at_ ++ ro) w' ∧ x = bestI (scan Q (i + 1))) (fun k2 hk2 => ?_) ?_
      · refine ifK_intro (fun hd => hk2 _ _ ⟨hA73, ?_⟩) (fun hd => hk2 _ _ ⟨hA73, ?_⟩)
        · obtain ⟨d1, d2⟩ : Q i ≠ [] ∧ ∀ b0, scan Q i = some b0 → hdK (Q i) < hdK (Q b0) := of_decide_eq_true hd
          rw [scan]
          cases hs : scan Q i with
          | none => simp only [if_neg d1]; rfl
          | some b0 => simp only [if_pos (And.intro d1 (d2 b0 hs))]; rfl
        · have hd' : ¬ (Q i ≠ [] ∧ ∀ b0, scan Q i = some b0 → hdK (Q i) < hdK (Q b0)) := of_decide_eq_false hd
          rw [scan]
          cases hs : scan Q i with
          | none =>
            have : Q i = [] := by
              cases hq : Q i with
              | nil => rfl
              | cons y r => exact absurd ⟨by rw [hq]; simp, fun b0 h => by rw [hs] at h; cases h⟩ hd'
            simp only [if_pos this]
          | some b0 =>
            have : ¬ (Q i ≠ [] ∧ hdK (Q i) < hdK (Q b0)) := fun ⟨h1, h2⟩ => hd' ⟨h1, fun b1 hb1 => by rw [hs] at hb1; cases hb1; exact h2⟩
            simp only [if_neg this]
      rintro _ w76 ⟨hA76, rfl⟩
      rw [set_step (by omega)]
      exact ⟨⟨i + 1, rfl, hlt', hA76, rfl⟩, by simp; omega⟩
    · have hge : i = n := by have : ¬ i < n := by simpa using hlt
                             omega
      subst hge
      exact hk _ _ ⟨hA5, rfl⟩
  rintro _ w78 ⟨hA78, rfl⟩
  -- the way out, of this loop
  have fin2 : ∀ (sv' : Sl) (e : Int) (l' : List Thing) (ro' : List (Nat × List Value)) (at' : Nat → Nat) (QF : Nat → List Thing) (w' : World), At w (fun _ => False) ([(b2, [(LV.sl ⟨none, 0, 0⟩).toV, .int .i64 0]), (b4, [(LV.sl sv').toV, .int .i64 e]), (ba, gC n at'), (bs, gC n fun j => at' j + 1)] ++ ro') w' → VecE ro' ET sv' l' →
      (runF n en (remQ L n) L) = (l', e, QF) → (∀ i, i < n → at' i ≤ (L i).length ∧ QF i = (L i).drop (at' i)) →
      Go.Vw.ld w' .sl b4 0 fun a79 => Go.Vw.ld w' (.int .i64) b4 1 fun n80 => Go.Vw.st w' b2 0 [.sl a79, .int .i64 n80] fun w_81 => Go.Vw.ld w_81 .sl b2 0 fun a82 => Go.Vw.ld w_81 (.int .i64) b2 1 fun n83 => K a82 n83 ⟨some (bs, 0), n, n⟩ w_81 := by
    intro sv' e l' ro' at' QF w' hA' hv' hr ha
    refine fin sv' e l' ro' (fun j => at' j + 1) [(LV.sl ⟨none, 0, 0⟩).toV, .int .i64 0] w' rfl (hA'.sub ?_) hv' (by rw [hrunM, hr]) (by rw [hrunM, hr]) fun i hi => ?_
    · exact .cons_cons _ (.cons_cons _ (.cons _ (List.Sublist.refl _)))
    · obtain ⟨a1, a2⟩ := ha i hi
      rw [hasks, hr]
      simp only [a2, List.length_drop]
      omega
  cases hs : scan Q n with
  | none =>
    refine ifK_t (by simp [bestI]) ?_
    rw [runF_none hs] at hl he
    refine fin2 sv 0 l ro at_ Q w78 hA78 hv ?_ hat
    exact Prod.ext (by rw [← hl]; simp) he.symm
  | some b =>
    obtain ⟨hb, hne, _⟩ := scan_some hs
    have hlb := (hQne b hb).1 hne
    have hq := hQc b hb hlb
    generalize hxx : (L b)[at_ b] = x at hq
    generalize hrr : (L b).drop (at_ b + 1) = r at hq
    have hxb : (L b)[at_ b]? = some x := by rw [List.getElem?_eq_getElem hlb, hxx]
    have hrem := (remQ_upd hq n).1 hb
    have hrun : runF n en (remQ Q n) Q = (x :: (contF n en (remQ (upd Q b r) n) Q b x r).1, (contF n en (remQ (upd Q b r) n) Q b x r).2) := by
      rw [← hrem]; exact runF_some hs hq
    have hatb := hLi b hb
    have hat' : ∀ i, i < n → upd at_ b (at_ b + 1) i ≤ (L i).length ∧ upd Q b r i = (L i).drop (upd at_ b (at_ b + 1) i) := fun i hi => by
      by_cases e : i = b
      · subst e; rw [upd_same, upd_same]; exact ⟨hlb, hrr.symm⟩
      · rw [upd_ne _ _ e, upd_ne _ _ e]; exact hat i hi
    refine ifK_f (bestI_neg _) ?_
    refine ⟨Ks ro, ?_⟩
    have hA84 := hA78.drew
    have hn4 : ¬ Ks ro b4 := hA84.notKs (p := (b4, [(LV.sl sv).toV, .int .i64 0])) (by simp [M])
    have hna : ¬ Ks ro ba := hA84.notKs (p := (ba, gC n at_)) (by simp [M])
    refine hA84.ldD 1 (k := .sl) sv rfl rfl hn4 ?_
    refine ixLD hrol hA84.mod hb fun z hz hzl => ?_
    refine ixgD hA84 2 rfl hb hna ?_
    refine hz.ix rfl rfl hxb fun bb o hbb hc => ?_
    have hbb' : ¬ Ks ro bb := hrol bb (hzl bb hbb)
    refine ldD_cell (k := .int .i64) x.1 hbb' (hc 0 (by decide)) (ldD_cell (k := .int .i64) x.2 hbb' (hc 1 (by decide)) ?_)
    refine hA84.alK fun b96 w97 _ hA97 M97 => ?_
    refine ⟨M97.mono fun _ _ h => h.elim, ?_⟩
    have hA97' : At w (fun _ => False) ((M sv at_ ++ [(b96, ET.f x)]) ++ ro) w97 := by
      have h1 : At w (fun _ => False) ((M sv at_ ++ ro) ++ [(b96, ET.f x)]) w97 := hA97
      exact h1.perm (perm_tail3 _ _ _)
    have hx97 : RdS w97 ET ⟨some (b96, 0), 1, 1⟩ [x] := rd_one (hA97'.own (b96, ET.f x) (by simp))
    have hlle : l.length ≤ remQ L n := by omega
    refine hA97'.app hv hx97 rfl rfl (by simp; omega) fun sv' ro' w99 hA99 hv99 M99 => ?_
    refine ⟨(M97.trans M99 (fun _ _ h => h.elim) fun _ _ h => h), ?_⟩
    have hA99' : At w (fun _ => False) (M sv at_ ++ ro') w99 := hA99.sub (List.Sublist.append_right (List.sublist_append_left _ _) _)
    refine hA99'.st 1 rfl (show 0 + 1 ≤ 2 by decide) fun w100 hA100 _ => ?_
    have hA100 : At w (fun _ => False) (M sv' at_ ++ ro') w100 := hA100
    refine ⟨fun _ => False, ?_⟩
    have hA101 := hA100.drew
    refine ixLD (fun _ _ => id) hA101.mod hb fun z2 hz2 _ => ixgD hA101 2 rfl hb id ?_
    refine hz2.ix rfl rfl hxb fun bb2 o2 _ hc2 => ldD_cell (k := .int .i64) x.1 id (hc2 0 (by decide)) ?_
    refine ixg hA101 2 rfl hb (ixgS hA101 2 rfl hb (k := at_ b + 1) (set_step (by omega)) fun w116 hA116 _ => ?_)
    have hA116 : At w (fun _ => False) ([(b2, [(LV.sl ⟨none, 0, 0⟩).toV, .int .i64 0]), (b4, [(LV.sl sv').toV, .int .i64 0]), (ba, gC n (upd at_ b (at_ b + 1))), (bs, gC n fun j => at_ j + 1)] ++ ro') w116 := hA116
    refine ixg hA116 3 rfl hb (ixgS hA116 3 rfl hb (k := at_ b + 1 + 1) (set_step (by omega)) fun w122 hA122 _ => ?_)
    have hA122 : At w (fun _ => False) (M sv' (upd at_ b (at_ b + 1)) ++ ro') w122 := by
      have e : upd (fun j => at_ j + 1) b (at_ b + 1 + 1) = fun j => upd at_ b (at_ b + 1) j + 1 := by
        funext j
        unfold upd
        by_cases h1 : j = b
        · subst h1; simp
        · simp [h1]
      have h1 : At w (fun _ => False) ([(b2, [(LV.sl ⟨none, 0, 0⟩).toV, .int .i64 0]), (b4, [(LV.sl sv').toV, .int .i64 0]), (ba, gC n (upd at_ b (at_ b + 1))), (bs, gC n (upd (fun j => at_ j + 1) b (at_ b + 1 + 1)))] ++ ro') w122 := hA122
      rw [e] at h1; exact h1
    have hr0 : ((at_ b + 1 : Nat) : Int) = ((L b).length : Nat) ↔ r = [] := by
      rw [← hrr]
      constructor
      · intro h; exact List.drop_eq_nil_of_le (by omega)
      · intro h
        have := congrArg List.length h
        simp at this; omega
    refine join1 (a := .bool) (fun c w' => At w (fun _ => False) (M sv' (upd at_ b (at_ b + 1)) ++ ro') w' ∧ c = decide (r = [] ∧ en b ≠ 0)) (fun k2 hk2 => ?_) ?_
    · refine ⟨fun _ => False, ?_⟩
      have hA124 := hA122.drew
      refine ixgD hA124 2 rfl hb id ?_
      rw [upd_same]
      refine ixLD (fun _ _ => id) hA124.mod hb fun z3 hz3 _ => ?_
      refine ifK_intro (fun h0 => ixND (fun _ _ => id) hA124.mod hb (hk2 _ _ ⟨hA124, ?_⟩)) (fun h0 => hk2 _ _ ⟨hA124, ?_⟩)
      · have : r = [] := hr0.1 (by rw [hz3.len] at h0; exact eq_of_beq h0)
        by_cases h9 : en b = 0 <;> simp [this, h9]
      · have : r ≠ [] := fun e => by
          rw [hz3.len] at h0
          exact absurd (hr0.2 e) (ne_of_beq_false h0)
        simp [this]
    rintro _ w135 ⟨hA135, rfl⟩
    refine ifK_intro (fun hd => ?_) (fun hd => ?_)
    · obtain ⟨hr1, he1⟩ : r = [] ∧ en b ≠ 0 := of_decide_eq_true hd
      refine ixN hA135.mod hb ?_
      refine hA135.st 1 rfl (Nat.le_refl 2) fun w139 hA139 _ => ?_
      have hcf : contF n en (remQ (upd Q b r) n) Q b x r = ([], en b, upd Q b r) := by
        subst hr1; unfold contF; simp [he1]
      rw [hrun, hcf] at hl he
      refine fin2 sv' (en b) (l ++ [x]) ro' _ (upd Q b r) w139 hA139 hv99 ?_ hat'
      exact Prod.ext hl.symm he.symm
    · have hd' : ¬ (r = [] ∧ en b ≠ 0) := of_decide_eq_false hd
      refine join1 (a := .bool) (fun c w' => At w (fun _ => False) (M sv' (upd at_ b (at_ b + 1)) ++ ro') w' ∧ c = lessHd x r) (fun k2 hk2 => ?_) ?_
      · refine ⟨fun _ => False, ?_⟩
        have hA146 := hA135.drew
        refine ixgD hA146 2 rfl hb id ?_
        rw [upd_same]
        refine ixLD (fun _ _ => id) hA146.mod hb fun z3 hz3 _ => ?_
        refine ifK_intro (fun h0 => ?_) (fun h0 => hk2 _ _ ⟨hA146, ?_⟩)
        · have hlt2 : at_ b + 1 < (L b).length := by rw [hz3.len] at h0; have : ((at_ b + 1 : Nat) : Int) < ((L b).length : Nat) := by simpa using h0
                                                     omega
          refine ixLD (fun _ _ => id) hA146.mod hb fun z4 hz4 _ => ixgD hA146 2 rfl hb id ?_
          rw [upd_same]
          refine hz4.ix rfl rfl (List.getElem?_eq_getElem hlt2) fun bb3 o3 _ hc3 => ldD_cell (k := .int .i64) ((L b)[at_ b + 1]).1 id (hc3 0 (by decide)) (hk2 _ _ ⟨hA146, ?_⟩)
          have hre : r = (L b)[at_ b + 1] :: (L b).drop (at_ b + 1 + 1) := by rw [← hrr]; exact List.drop_eq_getElem_cons hlt2
          rw [hre]; rfl
        · have : r = [] := by
            rw [← hrr]
            refine List.drop_eq_nil_of_le ?_
            rw [hz3.len] at h0; have : ¬ ((at_ b + 1 : Nat) : Int) < ((L b).length : Nat) := by simpa using h0
            omega
          rw [this]; rfl
      rintro _ w163 ⟨hA163, rfl⟩
      refine ifK_intro (fun h3 => ?_) (fun h3 => ?_)
      · obtain ⟨y, r', hr1, hlt3⟩ : ∃ y r', r = y :: r' ∧ y.1 < x.1 := by
          cases hrc : r with
          | nil => rw [hrc] at h3; cases h3
          | cons y r' => rw [hrc] at h3; exact ⟨y, r', rfl, of_decide_eq_true h3⟩
        refine hA163.st 1 rfl (Nat.le_refl 2) fun w164 hA164 _ => ?_
        have hcf : contF n en (remQ (upd Q b r) n) Q b x r = ([], 61, upd Q b r) := by
          subst hr1; unfold contF; simp [hlt3]
        rw [hrun, hcf] at hl he
        refine fin2 sv' 61 (l ++ [x]) ro' _ (upd Q b r) w164 hA164 hv99 ?_ hat'
        exact Prod.ext hl.symm he.symm
      · have h3' : ¬ ∃ y r', r = y :: r' ∧ y.1 < x.1 := by
          rintro ⟨y, r', e1, e2⟩
          rw [e1] at h3
          exact absurd e2 (of_decide_eq_false h3)
        have hcf : contF n en (remQ (upd Q b r) n) Q b x r = runF n en (remQ (upd Q b r) n) (upd Q b r) := by
          unfold contF
          cases r with
          | nil =>
            have : en b = 0 := by
              by_cases h9 : en b = 0
              · exact h9
              · exact absurd ⟨rfl, h9⟩ hd'
            simp [this]
          | cons y r' =>
            have : ¬ y.1 < x.1 := fun h => h3' ⟨y, r', rfl, h⟩
            simp [this]
        rw [hrun, hcf] at hl he
        refine hKK (upd Q b r, l ++ [x], upd at_ b (at_ b + 1), sv', ro') w163 ⟨hA163, hv99, hat', ?_, he, ?_⟩ (by simp only; omega)
        · rw [← hl]; simp
        · simp only [List.length_append, List.length_cons, List.length_nil]; omega
end Go.Proofs.Ytfhojgammfkabaa
