/- Groups, walked: the pairs' own going through, and the groups that are told. -/
import Derived.Test.YtfhojgammfkabaaG2
namespace Go.Proofs.Ytfhojgammfkabaa
open Go.Vw

def prC (pr : Sl) (bg gv : Int) : List Value := [(LV.sl pr).toV, .int .i64 bg, .int .i64 gv]
/-- the pairs' going through, as a function value -/
def allV (bp : Nat) : Value := .func (.func 13) #[(LV.toV (.ptr (some (bp, 0))))] #[]
theorem close1 {w0 w : World} {D : Nat → Prop} {X : List (Nat × Obj)} {m : List (Nat × List Value)} {r : Nat} (h : FA w0 D ((r, Mk) :: X) m w) {K : World → Prop} (hK : ∀ w', FA w0 D X m w' → K w') : closeK (r :: []) w K :=
  ⟨h.far (r, Mk) (by simp), hK _ ((h.put (o' := .deferred none) rfl).less (List.sublist_cons_self _ _))⟩
/-- a range over pairs of texts -/
theorem range_pairs {v : Value} {w : World} {B : Nat → Str → Str → World → (World → (World → Prop) → Prop) → (World → Prop) → (Nat → World → Prop) → Prop} {An : Nat → World → Prop} {As : List (Nat → World → Prop)}
    (h : ∀ (R : LSt → Obj) (l : Nat), (∀ s, isFar (R s) = true) → l = (w.alloc Mk).heap.size →
      (∀ (x y : Str) (w' : World) (K : Bool → World → Prop), w'.heap[l]? = some (R .ready) → B l x y w' (fun u K' => u.heap[l]? = some (R .ready) ∧ K' (u.putObj l (R .busy))) (fun u => u.heap[l]? = some (R .busy) ∧ K true (u.putObj l (R .ready))) (fun j u => u.heap[l]? = some (R .busy) ∧ K false (u.putObj l (R (.done j)))) →
        callV Try.prog (.func (.yield l) #[] #[]) [.agg [.str x, .str y]] w' (.one (.leaf .bool)) K) →
      callF Try.prog v [.leaf (.val (.func (.yield l) #[] #[]))] ((w.alloc Mk).alloc (R .ready)) (.tup []) fun w3 =>
        (w3.heap[l]? = some (R .ready) ∧ An w.heap.size (w3.putObj l (R (.over none)))) ∨ (∃ j A, As[j]? = some A ∧ w3.heap[l]? = some (R (.done j)) ∧ A w.heap.size (w3.putObj l (R (.over (some j)))))) :
    rangeK Try.prog [.agg [.str, .str]] v none w B An As := by
  refine ⟨fun l0 h => (by cases h), fun R w1 l hR hw1 hl HY => ?_⟩
  have hw1 : w1 = w.alloc Mk := hw1
  subst hw1
  exact h R l (fun s => isFar_loop (hR s)) hl fun x y w' K h1 h2 => HY [.str x, .str y] w' K h1 h2
theorem groups_ok {w0 : World} {D : Nat → Prop} {X Xs : List (Nat × Obj)} {bp b2 : Nat} {pr : Sl} {ps : List (Str × Str)} (hpr : ∀ w', Mod D w0 w' → RdS w' EPr pr ps) (hpl : ps.length ≤ 1048576) {bgn : Int} {Inv Stop : List (Nat × List Value) → Nat → Prop} {yv : Value} (hyc : isCell yv = true) {Kend : World → Prop}
    (hb2 : ∀ ro c, Inv ro c → (b2, [allV bp]) ∈ ro)
    (hyield : ∀ (Xi : List (Nat × Obj)) (Z ro rl : List (Nat × List Value)) k sl vs c w' (K : Bool → World → Prop), FA w0 D (X ++ Xi) ((ro ++ Z) ++ rl) w' → VecE rl EStr sl vs → vs ≠ [] → Inv ro c → (grp ps)[c]? = some (k, vs) →
      (∀ ro' w'', FA w0 D (X ++ Xi) (ro' ++ Z) w'' → Inv ro' (c + 1) → K true w'') → (∀ ro' w'', FA w0 D (Xs ++ Xi) (ro' ++ Z) w'' → Stop ro' (c + 1) → K false w'') → callV Try.prog yv [.leaf (.str k), .leaf (.sl sl)] w' (.one (.leaf .bool)) K)
    (hend : ∀ ro gv w', FA w0 D X (ro ++ [(bp, prC pr bgn gv)]) w' → Inv ro (grp ps).length → Kend w') (hend2 : ∀ ro gv c w', FA w0 D Xs (ro ++ [(bp, prC pr bgn gv)]) w' → Stop ro c → Kend w')
    {bg0 gv0 : Int} (hbg : w64 (bg0 + 1) = bgn) {ro0 : List (Nat × List Value)} {w : World} (h : FA w0 D X (ro0 ++ [(bp, prC pr bg0 gv0)]) w) (hI : Inv ro0 0) :
    callK Try.prog 39 [.leaf (.val yv), .leaf (.ptr (some (b2, 0)))] w (.tup []) Kend := by
  refine go_merge_Groups_1 _ _ _ _ _ ?_
  unfold S_merge_Groups_1
  refine ⟨fun x hx => by simp at hx; subst hx; exact hyc, ?_⟩
  refine h.rest.alK fun b4 w5 _ hA5 _ => ?_
  have h5 := h.law hA5
  have hb2c : ∀ {X m w}, FA w0 D X m w → (∀ p ∈ ro0, p ∈ m) → w.cell? ⟨b2, 0, none⟩ = some (LV.mk .val (allV bp)).toV := fun hF hm => ((hF.at_.own _ (hm _ (hb2 _ _ hI))).cell 0).trans rfl
  refine ld_cell (k := .val) (allV bp) (hb2c h5 fun p hp => by simp [hp]) (.inr ⟨_, _, _, rfl, ifK_f rfl ?_⟩)
  refine h5.rest.alK fun b8 w9 _ hA9 _ => ?_
  have h9 := h5.law hA9
  refine h9.rest.alK fun b10 w11 _ hA11 _ => ?_
  have h11 := h9.law hA11
  have h11 : FA w0 D X ([(bp, prC pr bg0 gv0), (b4, [yv]), (b8, [(LV.str []).toV]), (b10, [.bool false])] ++ ro0) w11 := by
    refine h11.perm ?_
    have e : (((ro0 ++ [(bp, prC pr bg0 gv0)]) ++ [(b4, List.map LV.toV [.val yv])]) ++ [(b8, List.map LV.toV [.str []])]) ++ [(b10, List.map LV.toV [.lit false])] = ro0 ++ [(bp, prC pr bg0 gv0), (b4, [yv]), (b8, [(LV.str []).toV]), (b10, [.bool false])] := by simp [LV.toV]
    rw [e]; exact List.perm_append_comm
  refine h11.rest.st 2 rfl (Nat.le_refl 1) fun w12 hA12 _ => ?_
  have hA12 : At w11 (Ks ([(bp, prC pr bg0 gv0), (b4, [yv]), (b8, [(LV.str []).toV]), (b10, [.bool false])] ++ ro0)) ([(bp, prC pr bg0 gv0), (b4, [yv]), (b8, [(LV.str []).toV]), (b10, [.bool false])] ++ ro0) w12 := hA12
  refine hA12.st 3 rfl (Nat.le_refl 1) fun w13 hA13 _ => ?_
  have hA13 : At w11 (Ks ([(bp, prC pr bg0 gv0), (b4, [yv]), (b8, [(LV.str []).toV]), (b10, [.bool false])] ++ ro0)) ([(bp, prC pr bg0 gv0), (b4, [yv]), (b8, [(LV.str []).toV]), (b10, [.bool false])] ++ ro0) w13 := hA13
  have h13 := h11.law hA13
  refine h13.rest.alK fun b14 w15 _ hA15 _ => ?_
  let Gc (key : Str) (bg : Bool) (vsl : Sl) (a g : Int) : List (Nat × List Value) := [(bp, prC pr a g), (b4, [yv]), (b8, [(LV.str key).toV]), (b10, [.bool bg]), (b14, [(LV.sl vsl).toV])]
  have h15 : FA w0 D X (Gc [] false ⟨none, 0, 0⟩ bg0 gv0 ++ ro0) w15 := (h13.law hA15).perm (perm_tail3 [(bp, prC pr bg0 gv0), (b4, [yv]), (b8, [(LV.str []).toV]), (b10, [.bool false])] ro0 [(b14, [(LV.sl ⟨none, 0, 0⟩).toV])]).symm
  refine ld_cell (k := .val) (allV bp) (hb2c h15 fun p hp => by simp [hp]) ?_
  refine range_pairs fun R l hfR hl HY => ?_
  have h16 := (h15.new (o := Mk) rfl).new (hfR .ready)
  rw [← hl] at h16
  generalize w15.heap.size = rr at h16 ⊢
  refine callF_func (CS_ok 13 rfl) [.leaf (.ptr (some (bp, 0))), .leaf (.val (.func (.yield l) #[] #[]))] (by rfl) ?_
  -- what is to be shown behind the pairs' going through
  generalize hKE : (fun w3 : World => (w3.heap[l]? = some (R .ready) ∧ _) ∨ _) = KE
  refine go_winnowlaw11_Pairs_all _ _ _ _ ?_
  unfold S_winnowlaw11_Pairs_all
  refine dr_some (h16.rest.ld 0 (k := .int .i64) bg0 rfl rfl (dr_some (h16.rest.st 0 rfl (show 0 + 1 + 1 ≤ 3 by decide) fun w8' hA8' _ => ?_)))
  rw [hbg] at hA8'
  have h17 : FA w0 D ((l, R .ready) :: (rr, Mk) :: X) (Gc [] false ⟨none, 0, 0⟩ bgn gv0 ++ ro0) w8' := h16.law hA8'
  clear h16 hA8' h15 hA15 h13 hA13 hA12 h11 hA11 h9 hA9 h5 hA5 h
  refine join0 (fun w' => KE w') (fun k9 hk9 => ?_) fun w' hw' => hw'
  refine loop1 (k := .int .i64) (fun x w' => ∃ (i c : Nat) (g : Int) (key : Str) (bg : Bool) (vsl : Sl) (vs : List Str) (rl ro : List (Nat × List Value)), x = i ∧ i ≤ ps.length ∧ FA w0 D ((l, R .ready) :: (rr, Mk) :: X) (Gc key bg vsl bgn g ++ (ro ++ rl)) w' ∧ VecE rl EStr vsl vs ∧ GSt ps i c bg key vs ∧ Inv ro c) (fun x _ => ps.length - x.toNat) rfl
    ⟨0, 0, gv0, [], false, ⟨none, 0, 0⟩, [], [], ro0, rfl, Nat.zero_le _, by rw [List.append_nil]; exact h17, VecE.nil _, GSt.init ps [], hI⟩ ?_
  rintro x w12' ⟨i, c, g, key, bg, vsl, vs, rl, ro, rfl, hi, hF, hv, hg, hInv⟩
  have hp12 := hpr _ hF.at_.mod
  refine dr_some (hF.rest.ld 0 (k := .sl) pr rfl rfl ?_)
  refine ifK_intro (fun hlt => ?_) (fun hlt => ?_)
  · have hlt' : i < ps.length := by rw [hp12.len] at hlt; simpa using hlt
    obtain ⟨pk, pv, hpi⟩ : ∃ a b, ps[i]? = some (a, b) := ⟨ps[i].1, ps[i].2, List.getElem?_eq_getElem hlt'⟩
    refine dr_some (hF.rest.ld 0 (k := .int .i64) g rfl rfl (dr_some (hF.rest.st 0 rfl (Nat.le_refl 3) fun w21 hA21 _ => ?_)))
    have h21 : FA w0 D ((l, R .ready) :: (rr, Mk) :: X) (Gc key bg vsl bgn (w64 (g + 1)) ++ (ro ++ rl)) w21 := hF.law hA21
    generalize w64 (g + 1) = g' at h21
    refine dr_some (h21.rest.ld 0 (k := .sl) pr rfl rfl ?_)
    refine (hpr _ h21.at_.mod).ix rfl rfl hpi fun b o _ hc => ld_cell (k := .str) pk (hc 0 (by decide)) (ld_cell (k := .str) pv (hc 1 (by decide)) ?_)
    refine HY pk pv w21 _ (h21.far (l, R .ready) (by simp)) ?_
    refine h21.rest.alK fun b27 w28 _ hA28 _ => ?_
    have hA28' : At w21 (Ks (Gc key bg vsl bgn g' ++ (ro ++ rl))) ((Gc key bg vsl bgn g' ++ [(b27, [(LV.str []).toV, (LV.str []).toV])]) ++ (ro ++ rl)) w28 := hA28.perm (perm_tail3 _ _ _)
    refine hA28'.st 5 rfl (Nat.le_refl 2) fun w29 hA29 _ => ?_
    let G6 (key : Str) (bg : Bool) (vsl : Sl) : List (Nat × List Value) := Gc key bg vsl bgn g' ++ [(b27, [(LV.str pk).toV, (LV.str pv).toV])]
    have hA29 : At w21 (Ks (Gc key bg vsl bgn g' ++ (ro ++ rl))) (G6 key bg vsl ++ (ro ++ rl)) w29 := hA29
    have h29 := h21.law hA29
    refine ⟨h29.far (l, R .ready) (by simp), ?_⟩
    have h30 := h29.put (o' := R .busy) (hfR _)
    generalize w29.putObj l (R .busy) = w30 at h30 ⊢
    refine join1 (a := .bool) (fun b w' => w' = w30 ∧ b = (bg && !(pk == key))) (fun k2 hk2 => ?_) ?_
    · refine h30.rest.ld 3 (k := .bool) bg rfl rfl (ifK_intro (fun hb => ?_) (fun hb => hk2 _ _ ⟨rfl, by rw [hb]; rfl⟩))
      exact h30.rest.ld 5 (k := .str) pk rfl rfl (h30.rest.ld 2 (k := .str) key rfl rfl (hk2 _ _ ⟨rfl, by rw [hb]; rfl⟩))
    rintro _ w36 ⟨hw36, rfl⟩
    rw [hw36]
    refine join0 (fun w' => ∃ (c : Nat) (key : Str) (bg : Bool) (vsl : Sl) (vs : List Str) (rl ro : List (Nat × List Value)), FA w0 D ((l, R .busy) :: (rr, Mk) :: X) (G6 key bg vsl ++ (ro ++ rl)) w' ∧ VecE rl EStr vsl vs ∧ GSt ps (i + 1) c true pk (vs ++ [pv]) ∧ vs.length ≤ i ∧ Inv ro c) (fun k2 hk2 => ?_) ?_
    · refine ifK_intro (fun ht => ?_) (fun ht => hk2 _ ?_)
      · obtain ⟨hbt, hne⟩ : bg = true ∧ key ≠ pk := by
          simp only [Bool.and_eq_true, Bool.not_eq_true'] at ht
          exact ⟨ht.1, fun e => by have := ht.2; rw [e] at this; simp at this⟩
        subst hbt
        obtain ⟨t1, t2⟩ := hg.tell hpi hne
        have hvne : vs ≠ [] := by cases hg with | run T h1 h2 h3 h4 => exact h3
        refine h30.rest.ld 1 (k := .val) yv rfl rfl (h30.rest.ld 2 (k := .str) key rfl rfl (h30.rest.ld 4 (k := .sl) vsl rfl rfl ?_))
        have h30' : FA w0 D (X ++ [(l, R .busy), (rr, Mk)]) ((ro ++ G6 key true vsl) ++ rl) w30 := by
          refine (h30.xperm (List.perm_append_comm (l₂ := [(l, R .busy), (rr, Mk)]))).perm ?_
          rw [← List.append_assoc (G6 key true vsl) ro rl]
          exact List.perm_append_comm.append_right rl
        refine hyield _ _ _ _ _ _ _ c w30 _ h30' hv hvne hInv t1 (fun ro' w42 h42 hI' => ifK_f rfl ?_) (fun ro' w42 h42 hS' => ifK_t rfl ?_)
        · have h42' : FA w0 D ((l, R .busy) :: (rr, Mk) :: X) (G6 key true vsl ++ ro') w42 := (h42.xperm (List.perm_append_comm (l₁ := [(l, R .busy), (rr, Mk)]))).perm List.perm_append_comm
          refine h42'.rest.st 4 rfl (Nat.le_refl 1) fun w43 hA43 _ => hk2 _ ⟨c + 1, key, true, ⟨none, 0, 0⟩, [], [], ro', ?_, VecE.nil _, t2, Nat.zero_le _, hI'⟩
          rw [List.append_nil]
          exact h42'.law hA43
        · have h42' : FA w0 D ((l, R .busy) :: (rr, Mk) :: Xs) (G6 key true vsl ++ ro') w42 := (h42.xperm (List.perm_append_comm (l₁ := [(l, R .busy), (rr, Mk)]))).perm List.perm_append_comm
          refine ⟨h42'.far (l, R .busy) (by simp), ?_⟩
          have h43 := h42'.put (o' := R (.done 0)) (hfR _)
          refine ifK_t rfl ?_
          rw [← hKE]
          refine .inr ⟨0, _, rfl, h43.far (l, R (.done 0)) (by simp), ?_⟩
          have h44 := h43.put (o' := R (.over (some 0))) (hfR _)
          refine close1 (h44.less (List.sublist_cons_self _ _)) fun w' h' => hend2 ro' g' _ w' ?_ hS'
          have : ([(bp, prC pr bgn g')] ++ ro').Sublist (G6 key true vsl ++ ro') := .cons_cons _ (List.sublist_append_right _ _)
          exact (h'.sub this).perm List.perm_append_comm
      · refine ⟨c, key, bg, vsl, vs, rl, ro, h30, hv, ?_, ?_, hInv⟩
        · cases hbg' : bg with
          | false => rw [hbg'] at hg; exact hg.first hpi
          | true =>
            rw [hbg'] at hg ht
            have : key = pk := by
              have : (pk == key) = true := by simpa using ht
              exact (eq_of_beq this).symm
            exact hg.same hpi this
        · cases hg with
          | zer h1 h2 h3 => rw [h3]; exact Nat.zero_le _
          | run T h1 h2 h3 h4 => exact h4
    rintro w44 ⟨c, key, bg, vsl, vs, rl, ro, h44, hv, hg, hvl, hInv⟩
    refine h44.rest.ld 5 (k := .str) pk rfl rfl (h44.rest.st 2 rfl (Nat.le_refl 1) fun w46 hA46 _ => ?_)
    have h46 : FA w0 D ((l, R .busy) :: (rr, Mk) :: X) (G6 pk bg vsl ++ (ro ++ rl)) w46 := h44.law hA46
    refine h46.rest.st 3 rfl (Nat.le_refl 1) fun w47 hA47 _ => ?_
    have h47 : FA w0 D ((l, R .busy) :: (rr, Mk) :: X) (G6 pk true vsl ++ (ro ++ rl)) w47 := h46.law hA47
    refine h47.rest.ld 4 (k := .sl) vsl rfl rfl (h47.rest.ld 5 (k := .str) pv rfl rfl ?_)
    refine h47.rest.alK fun b50 w51 _ hA51 _ => ?_
    have hA51' : At w47 (Ks (G6 pk true vsl ++ (ro ++ rl))) (((G6 pk true vsl ++ ro) ++ [(b50, EStr.f pv)]) ++ rl) w51 := by
      have h1 : At w47 (Ks (G6 pk true vsl ++ (ro ++ rl))) (((G6 pk true vsl ++ ro) ++ rl) ++ [(b50, EStr.f pv)]) w51 := by rw [List.append_assoc (G6 pk true vsl)]; exact hA51
      exact h1.perm (perm_tail3 _ _ _)
    have hx51 : RdS w51 EStr ⟨some (b50, 0), 1, 1⟩ [pv] := rd_one (hA51'.own (b50, EStr.f pv) (by simp))
    refine hA51'.app hv hx51 rfl rfl (by simp; omega) fun vsl' rl' w53 hA53 hv53 _ => ?_
    have hA53' : At w47 (Ks (G6 pk true vsl ++ (ro ++ rl))) (G6 pk true vsl ++ (ro ++ rl')) w53 := by
      rw [← List.append_assoc (G6 pk true vsl) ro rl']
      exact hA53.sub (List.Sublist.append_right (List.sublist_append_left _ _) _)
    refine hA53'.st 4 rfl (Nat.le_refl 1) fun w54 hA54 _ => ?_
    have h54 : FA w0 D ((l, R .busy) :: (rr, Mk) :: X) (G6 pk true vsl' ++ (ro ++ rl')) w54 := h47.law hA54
    refine ⟨h54.far (l, R .busy) (by simp), ?_⟩
    have h55 := h54.put (o' := R .ready) (hfR _)
    refine ifK_f rfl ?_
    rw [set_step (by omega)]
    exact ⟨⟨i + 1, c, g', pk, true, vsl', vs ++ [pv], rl', ro, rfl, hlt', h55.sub (List.Sublist.append_right (List.sublist_append_left _ _) _), hv53, hg, hInv⟩, by simp; omega⟩
  · have hge : i = ps.length := by rw [hp12.len] at hlt; have : ¬ i < ps.length := by simpa using hlt
                                   omega
    subst hge
    refine hk9 _ ?_
    rw [← hKE]
    refine .inl ⟨hF.far (l, R .ready) (by simp), ?_⟩
    have h56 := (hF.put (o' := R (.over none)) (hfR _)).less (List.sublist_cons_self _ _)
    generalize w12'.putObj l (R (.over none)) = w56 at h56 ⊢
    refine h56.rest.ld 3 (k := .bool) bg rfl rfl ?_
    refine join0 (fun w' => ∃ ro, (FA w0 D ((rr, Mk) :: X) (Gc key bg vsl bgn g ++ ro) w' ∧ Inv ro (grp ps).length) ∨ ∃ c, FA w0 D ((rr, Mk) :: Xs) (Gc key bg vsl bgn g ++ ro) w' ∧ Stop ro c) (fun k2 hk2 => ?_) ?_
    · refine ifK_intro (fun hb => ?_) (fun hb => hk2 _ ⟨ro, .inl ⟨h56.sub (List.Sublist.append_left (List.sublist_append_left _ _) _), ?_⟩⟩)
      · subst hb
        obtain ⟨t1, t2⟩ := hg.last
        have hvne : vs ≠ [] := by cases hg with | run T h1 h2 h3 h4 => exact h3
        refine h56.rest.ld 1 (k := .val) yv rfl rfl (h56.rest.ld 2 (k := .str) key rfl rfl (h56.rest.ld 4 (k := .sl) vsl rfl rfl ?_))
        have h56' : FA w0 D (X ++ [(rr, Mk)]) ((ro ++ Gc key true vsl bgn g) ++ rl) w56 := by
          refine (h56.xperm (List.perm_append_comm (l₂ := [(rr, Mk)]))).perm ?_
          rw [← List.append_assoc (Gc key true vsl bgn g) ro rl]
          exact List.perm_append_comm.append_right rl
        have hb' : ∀ {X : List (Nat × Obj)} {ro' : List (Nat × List Value)} {w' : World}, FA w0 D (X ++ [(rr, Mk)]) (ro' ++ Gc key true vsl bgn g) w' → FA w0 D ((rr, Mk) :: X) (Gc key true vsl bgn g ++ ro') w' := fun {_ _ _} h' => (h'.xperm (List.perm_append_comm (l₁ := [(rr, Mk)]))).perm List.perm_append_comm
        refine hyield _ _ _ _ _ _ _ c w56 _ h56' hv hvne hInv t1 (fun ro' w42 h42 hI' => hk2 _ ⟨ro', .inl ⟨hb' h42, by rw [← t2]; exact hI'⟩⟩) (fun ro' w42 h42 hS' => hk2 _ ⟨ro', .inr ⟨_, hb' h42, hS'⟩⟩)
      · subst hb
        rw [← hg.empty]; exact hInv
    · have hsb : ∀ ro', ([(bp, prC pr bgn g)] ++ ro').Sublist (Gc key bg vsl bgn g ++ ro') := fun ro' => .cons_cons _ (List.sublist_append_right _ _)
      rintro w64' ⟨ro', ⟨h64, hI'⟩ | ⟨c', h64, hS'⟩⟩
      · exact close1 h64 fun w' h' => hend ro' g w' ((h'.sub (hsb ro')).perm List.perm_append_comm) hI'
      · exact close1 h64 fun w' h' => hend2 ro' g c' w' ((h'.sub (hsb ro')).perm List.perm_append_comm) hS'
end Go.Proofs.Ytfhojgammfkabaa
