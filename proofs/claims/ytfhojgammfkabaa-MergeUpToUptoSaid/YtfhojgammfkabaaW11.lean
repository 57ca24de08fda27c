/- The typed reading is sound, tenth part: all code; a function's contract. -/
import Derived.Test.YtfhojgammfkabaaW10
import Derived.RangeFuncRecord
namespace Go.Vw
variable {P : Program}

theorem sub_l {a b : List Nat} : ∀ t, t ∈ a → t ∈ a ++ b := fun _ h => List.mem_append_left _ h
theorem sub_r {a b : List Nat} : ∀ t, t ∈ b → t ∈ a ++ b := fun _ h => List.mem_append_right _ h

/-! ### a range over a function -/
def jcode : Option Nat → Code
  | none => .ret
  | some i => .exit i
/-- the record of a range over a function, by its state -/
def recOf (rec : Loop) (js : List (Option Nat)) : LSt → Obj
  | .ready => .loop { rec with state := .ready, pending := none }
  | .busy => .loop { rec with state := .busy, pending := none }
  | .done j => .loop { rec with state := .done, pending := (js[j]?).map jcode }
  | .over none => .loop { rec with state := .exhausted, pending := none }
  | .over (some j) => .loop { rec with state := .exhausted, pending := (js[j]?).map jcode }
theorem recOf_loop (rec : Loop) (js : List (Option Nat)) (s : LSt) : isLoop (some (recOf rec js s)) = true := by
  cases s with
  | over j => cases j <;> rfl
  | _ => rfl
theorem idxOf_get : ∀ (js : List (Option Nat)) (j : Option Nat), j ∈ js → js[idxOf j js]? = some j
  | [], j, h => by simp at h
  | x :: r, j, h => by
    unfold idxOf
    by_cases hx : x = j
    · subst hx; simp
    · have hb : (x == j) = false := by simpa using hx
      simp only [hb, Bool.false_eq_true, if_false]
      rw [List.getElem?_cons_succ]
      exact idxOf_get r j (by rcases List.mem_cons.1 h with h | h
                              · exact absurd h.symm hx
                              · exact h)
theorem setPs_sim : ∀ (ts : List Tmp) (vs : List AV) (e : Env) (t : Array Value), SimT e { tmps := t, defers := [] } → ts.length = vs.length →
    SimT (setPs ts vs e) { tmps := (ts.zip (vs.map AV.toV)).foldl (fun t (x : Tmp × Value) => t.setIfInBounds x.1 x.2) t, defers := [] } ∧ (setPs ts vs e).calls = e.calls ∧ (setPs ts vs e).marks = e.marks
  | [], [], e, t, h, _ => ⟨h, rfl, rfl⟩
  | [], _ :: _, _, _, _, h => by simp at h
  | _ :: _, [], _, _, _, h => by simp at h
  | x :: ts, v :: vs, e, t, h, hl => by
    have hset : SimT (eset e x (.one v)) { tmps := t.setIfInBounds x v.toV, defers := [] } := by
      have hs : Sim ⟨e.t, e.n, [], []⟩ { tmps := t, defers := [] } := ⟨h.size, h.get, rfl⟩
      have := hs.set x (.one v)
      exact ⟨this.size, this.get⟩
    have := setPs_sim ts vs (eset e x (.one v)) _ hset (by simpa using hl)
    exact this
theorem mkAVs_length : ∀ (ss : List Sh) (l : List LV), l.length = (kdsOf ss).length → (mkAVs ss l).length = ss.length
  | [], _, _ => rfl
  | .leaf k :: ss, [], h => by simp [kdsOf, Sh.kds] at h
  | .leaf k :: ss, x :: l, h => by
    simp only [mkAVs, List.length_cons]
    rw [mkAVs_length ss l (by simp [kdsOf, Sh.kds] at h; exact h)]
  | .agg ks :: ss, l, h => by
    simp only [mkAVs, List.length_cons]
    rw [mkAVs_length ss (l.drop ks.length) (by simp [kdsOf, Sh.kds] at h; simp [h])]
theorem app_lam_bad {R : Type} {bad : R} {ks : List Kd} {g : List LV → R} {l : List LV} : app bad ks (lam ks g) l = bad ∨ ∃ l', app bad ks (lam ks g) l = g l' ∧ l'.map LV.toV = l.map LV.toV ∧ Ty ks l' := app_lam bad ks g l

abbrev lrec (fn : FuncId) (t : Array Value) (ps : Array Tmp) (asg body : Code) (dfs : Nat) : Loop := { state := .ready, pending := none, fn, tmps := t, params := ps, assign := asg, body, defers := dfs }
def RK (K : Bool → World → Prop) : Ending → World → Prop := fun e w' => ∃ l : List LV, e = .returned ((RT.one (.leaf .bool)).mk l).toV ∧ app noW (RT.one (.leaf .bool)).kds K l w'
theorem yield_at {fn : FuncId} {t : Array Value} {ps : Array Tmp} {asg body : Code} {dfs l : Nat} {ss : List Sh} (hlen : ss.length = ps.size) {js : List (Option Nat)} {xs : List LV} {w' : World} {K : Bool → World → Prop}
    (hrec : w'.heap[l]? = some (recOf (lrec fn t ps asg body dfs) js .ready)) (hxs : xs.length = (kdsOf ss).length)
    (h : asg.wpIn (FW (some l)) 0 P (Exit.then (fun a₁ w₁ => ∃ w₂, (Instr.beginRound l).run P w₁ = .ok () w₂ ∧ body.wpIn (FW (some l)) 0 P (roundPost P l (RK K)) a₁ w₂) (fun _ _ _ => False))
      { tmps := (ps.toList.zip ((mkAVs ss xs).map AV.toV)).foldl (fun t (x : Tmp × Value) => t.setIfInBounds x.1 x.2) t, defers := [] } w') :
    callV P (.func (.yield l) #[] #[]) (mkAVs ss xs) w' (.one (.leaf .bool)) K := by
  refine .inr ⟨l, #[], #[], rfl, rfl, fn, (ps.toList.zip ((mkAVs ss xs).map AV.toV)).foldl (fun t (x : Tmp × Value) => t.setIfInBounds x.1 x.2) t, asg, body, ?_, ?_⟩
  · rw [run_yield hrec (by simp [mkAVs_length ss xs hxs, hlen])]
    congr 2
    rw [← Array.foldl_toList, Array.toList_zip]
  · exact roundIn_of_wpIn trivial h
theorem rp_normal {rec : Loop} {js : List (Option Nat)} {l : Nat} {K : Bool → World → Prop} {u : World} {a : Act} (h : u.heap[l]? = some (recOf rec js .busy) ∧ K true (u.putObj l (recOf rec js .ready))) : roundPost P l (RK K) .normal a u :=
  ⟨_, _, run_endRound none h.1, [.bool true], rfl, h.2⟩
theorem rp_exit {rec : Loop} {js : List (Option Nat)} {l i : Nat} {K : Bool → World → Prop} {u : World} {a : Act} (hj : some i ∈ js) (h : u.heap[l]? = some (recOf rec js .busy) ∧ K false (u.putObj l (recOf rec js (.done (idxOf (some i) js))))) : roundPost P l (RK K) (.exit i) a u := by
  refine ⟨_, _, run_endRound (some (.exit i)) h.1, [.bool false], rfl, ?_⟩
  have := h.2
  simp only [recOf, idxOf_get js _ hj] at this
  exact this
theorem rp_ret {rec : Loop} {js : List (Option Nat)} {l : Nat} {K : Bool → World → Prop} {u : World} {a : Act} (hj : none ∈ js) (h : u.heap[l]? = some (recOf rec js .busy) ∧ K false (u.putObj l (recOf rec js (.done (idxOf none js))))) : roundPost P l (RK K) .ret a u := by
  refine ⟨_, _, run_endRound (some .ret) h.1, [.bool false], rfl, ?_⟩
  have := h.2
  simp only [recOf, idxOf_get js _ hj] at this
  exact this
theorem recOf_over {rec : Loop} {js : List (Option Nat)} {j : Nat} {jj : Option Nat} (h : js[j]? = some jj) : recOf rec js (.over (some j)) = .loop { rec with state := .exhausted, pending := some (jcode jj) } := by simp [recOf, h]
theorem recOf_done {rec : Loop} {js : List (Option Nat)} {j : Nat} {jj : Option Nat} (h : js[j]? = some jj) : recOf rec js (.done j) = .loop { rec with state := .done, pending := some (jcode jj) } := by simp [recOf, h]
/-- behind the call of a range over a function -/
theorem after_sound {Q : Exit → Act → World → Prop} {r : Option Nat} {rec : Loop} {js : List (Option Nat)} {l b : Nat} {a : Act} {An : Nat → World → Prop} {As : List (Nat → World → Prop)} {w3 : World}
    (h : (w3.heap[l]? = some (recOf rec js .ready) ∧ An b (w3.putObj l (recOf rec js (.over none)))) ∨ (∃ j A, As[j]? = some A ∧ w3.heap[l]? = some (recOf rec js (.done j)) ∧ A b (w3.putObj l (recOf rec js (.over (some j))))))
    (hn : ∀ w', An b w' → Q .normal a w') (hj : ∀ (j : Nat) (A : Nat → World → Prop), As[j]? = some A → ∃ jj, js[j]? = some jj ∧ ∀ w', A b w' → match jj with | none => Q .ret a w' | some i => Q (.exit i) a w') (v : Value) : rangePost (FW r) 0 P l Q a (.returned v) w3 := by
  rcases h with ⟨hrec, hA⟩ | ⟨j, A, hA1, hrec, hA⟩
  · exact ⟨none, _, run_endLoop hrec (by simp), hn _ hA⟩
  · obtain ⟨jj, hjj, hg⟩ := hj j A hA1
    rw [recOf_done hjj] at hrec
    rw [recOf_over hjj] at hA
    refine ⟨some (jcode jj), _, run_endLoop hrec (by simp), ?_⟩
    cases jj with
    | none => exact wpIn_ret (hg _ hA)
    | some i => exact wpIn_exit (hg _ hA)
theorem call_sound {r : Option Nat} {g : Operand} {a : Act} {v : Value} (hgv : a.eval g = v) {l : Nat} {w1 : World} {K : World → Prop} {Q : Exit → Act → World → Prop} {a' : Act} (h : callF P v [.leaf (.val (.func (.yield l) #[] #[]))] w1 (.tup []) K)
    (hk : ∀ w3 u, K w3 → rangePost (FW r) 0 P l Q a' (.returned u) w3) :
    ∃ (d : Deferred) (w₁' : World) (f : FuncId) (args : Array Value) (w₂ : World), (resolve a.eval (rangeCall g l) 0).run P w1 = .ok d w₁' ∧ (∀ f', Target.leads P w₁' d.target d.args = some f' → (FW r).fn f') ∧
      (invoke d.target d.args).run P w₁' = .ok (.enter f args) w₂ ∧ ((FW r).depth.isSome = true → 1 ≤ 0) ∧ CallsIn (FW r) (0 - 1) P f args w₂ (rangePost (FW r) 0 P l Q a') := by
  obtain ⟨f, x, c, rfl, hf, hc⟩ := h
  have hc' : CallsIn (FW r) (0 - 1) P f (x ++ #[.func (.yield l) #[] #[]] ++ c) w1 (rangePost (FW r) 0 P l Q a') := by
    refine calls_in (Calls.mono hc ?_)
    rintro e' w3 ⟨lr, rfl, hkr⟩
    cases lr with
    | cons y lr => exact hkr.elim
    | nil => exact hk w3 _ hkr
  refine ⟨⟨.fn (.func f) c, x ++ #[.func (.yield l) #[] #[]]⟩, w1, f, _, w1, ?_, fun _ _ => trivial, ?_, (fun h => by cases h), hc'⟩
  · show (resolve a.eval ⟨.value g, #[.const (.func (.yield l) #[] #[])], #[]⟩ 0).run P w1 = _
    have hm : #[Operand.const (.func (.yield l) #[] #[])].map a.eval = #[.func (.yield l) #[] #[]] := by simp [Act.eval]
    simp only [resolve, Deferred.ofValue, hgv, hm]; rfl
  · simp [invoke, run_callFunc hf]

/-- **ALL CODE** -/
theorem W_sound {cs : List Nat} (hcs : ∀ f, cs.contains f = true → callable P f = true) (hm : P.follows .mixedOrders = true) : ∀ (c : Code) (r : Option Nat) (n : Ann) (e : Env) (w : World) (kn : Env → World → Prop) (kx : Nat → Env → World → Prop) (kr : Env → World → Prop) (a : Act) (Q : Exit → Act → World → Prop),
    Sim e a → W P cs r c n e w kn kx kr →
    (∀ e' a' w', kn e' w' → Sim e' a' → Stp (dsts c) (rngC c) (defC c) e e' a a' → Q .normal a' w') →
    (∀ i e' a' w', i ∈ (jmps c).filterMap id → kx i e' w' → Sim e' a' → Stp (dsts c) (rngC c) (defC c) e e' a a' → Q (.exit i) a' w') →
    (∀ e' a' w', none ∈ jmps c → kr e' w' → Sim e' a' → Stp (dsts c) (rngC c) (defC c) e e' a a' → Q .ret a' w') → c.wpIn (FW r) 0 P Q a w := by
  intro c
  induction c with
  | skip => intro r n e w kn kx kr a Q hs h hN _ _; exact wpIn_skip (hN _ _ _ h hs (Stp.refl _ _ _ _ _))
  | label l => intro r n e w kn kx kr a Q hs h hN _ _; exact wpIn_label (hN _ _ _ h hs (Stp.refl _ _ _ _ _))
  | goto l => intro r n e w kn kx kr a Q hs h; exact h.elim
  | refuse s => intro r n e w kn kx kr a Q hs h; exact h.elim
  | exit i => intro r n e w kn kx kr a Q hs h _ hX _; exact wpIn_exit (hX i _ _ _ (by simp [jmps]) h hs (Stp.refl _ _ _ _ _))
  | ret => intro r n e w kn kx kr a Q hs h _ _ hR; exact wpIn_ret (hR _ _ _ (by simp [jmps]) h hs (Stp.refl _ _ _ _ _))
  | region id ops d =>
    intro r n e w kn kx kr a Q hs h hN hX hR
    cases d with
    | false =>
      simp only [W] at h
      split at h
      · exact h.elim
      · rename_i hro
        refine withJ_sound h hs hN fun kn' h' hN' => ?_
        refine wpIn_region_list (runOps_sound hcs ops.toList e a w kn' ?_ hs h' fun e' a' w' hk hs' st => hN' _ _ _ hk hs' st)
        intro hr
        have : ¬ (r.isSome && defC (.region id ops false)) = true := hro
        rw [hr, Bool.true_and] at this
        simpa [defC_region] using this
    | true =>
      simp only [W] at h
      split at h
      · rename_i hp
        simp only [Bool.and_eq_true] at hp
        refine withJ_sound h hs hN fun kn' h' hN' => ?_
        refine draw_sound hcs hm hp.1 hp.2 hs h' fun e' a' w' hk hs' st => hN' _ _ _ hk hs' ?_
        exact st.weaken (fun _ h => h) (fun _ => rfl) (fun _ => rfl)
      · exact h.elim
  | seq x y ihx ihy =>
    intro r n e w kn kx kr a Q hs h hN hX hR
    simp only [W] at h
    refine withJ_sound h hs hN fun kn' h' hN' => ?_
    have hor : ∀ {p q : Bool}, (p || q) = false → p = false ∧ q = false := fun h => Bool.or_eq_false_iff.1 h
    refine wpIn_seq (ihx r n.fst e w _ kx kr a _ hs h' ?_ ?_ ?_)
    · intro e1 a1 w1 hk hs1 st1
      refine ihy r n.snd e1 w1 kn' kx kr a1 Q hs1 hk ?_ ?_ ?_
      · intro e2 a2 w2 hk2 hs2 st2; exact hN' _ _ _ hk2 hs2 (st1.trans st2 sub_l sub_r hor hor)
      · intro i e2 a2 w2 hi hk2 hs2 st2
        refine hX i _ _ _ ?_ hk2 hs2 (st1.trans st2 sub_l sub_r hor hor)
        obtain ⟨j, hj, hji⟩ := List.mem_filterMap.1 hi
        refine List.mem_filterMap.2 ⟨j, ?_, hji⟩
        simp only [jmps, List.mem_append, List.mem_filter]
        by_cases hjx : j ∈ jmps x
        · exact .inl hjx
        · exact .inr ⟨hj, by simpa using hjx⟩
      · intro e2 a2 w2 hi hk2 hs2 st2
        refine hR _ _ _ ?_ hk2 hs2 (st1.trans st2 sub_l sub_r hor hor)
        simp only [jmps, List.mem_append, List.mem_filter]
        by_cases hjx : none ∈ jmps x
        · exact .inl hjx
        · exact .inr ⟨hi, by simpa using hjx⟩
    · intro i e1 a1 w1 hi hk hs1 st1
      obtain ⟨j, hj, hji⟩ := List.mem_filterMap.1 hi
      exact hX i _ _ _ (List.mem_filterMap.2 ⟨j, List.mem_append_left _ hj, hji⟩) hk hs1 (st1.weaken sub_l (fun h => (hor h).1) (fun h => (hor h).1))
    · intro e1 a1 w1 hi hk hs1 st1; exact hR _ _ _ (List.mem_append_left _ hi) hk hs1 (st1.weaken sub_l (fun h => (hor h).1) (fun h => (hor h).1))
  | cond c x y ihx ihy =>
    intro r n e w kn kx kr a Q hs h hN hX hR
    simp only [W] at h
    refine withJ_sound h hs hN fun kn' h' hN' => ?_
    have hor : ∀ {p q : Bool}, (p || q) = false → p = false ∧ q = false := fun h => Bool.or_eq_false_iff.1 h
    have goX : W P cs r x n.fst e w kn' kx kr → x.wpIn (FW r) 0 P Q a w := fun h => by
      refine ihx r n.fst e w kn' kx kr a Q hs h ?_ ?_ ?_
      · intro e1 a1 w1 hk hs1 st1; exact hN' _ _ _ hk hs1 (st1.weaken sub_l (fun h => (hor h).1) (fun h => (hor h).1))
      · intro i e1 a1 w1 hi hk hs1 st1
        obtain ⟨j, hj, hji⟩ := List.mem_filterMap.1 hi
        exact hX i _ _ _ (List.mem_filterMap.2 ⟨j, List.mem_append_left _ hj, hji⟩) hk hs1 (st1.weaken sub_l (fun h => (hor h).1) (fun h => (hor h).1))
      · intro e1 a1 w1 hi hk hs1 st1; exact hR _ _ _ (List.mem_append_left _ hi) hk hs1 (st1.weaken sub_l (fun h => (hor h).1) (fun h => (hor h).1))
    have goY : W P cs r y n.snd e w kn' kx kr → y.wpIn (FW r) 0 P Q a w := fun h => by
      refine ihy r n.snd e w kn' kx kr a Q hs h ?_ ?_ ?_
      · intro e1 a1 w1 hk hs1 st1; exact hN' _ _ _ hk hs1 (st1.weaken sub_r (fun h => (hor h).2) (fun h => (hor h).2))
      · intro i e2 a2 w2 hi hk2 hs2 st2
        refine hX i _ _ _ ?_ hk2 hs2 (st2.weaken sub_r (fun h => (hor h).2) (fun h => (hor h).2))
        obtain ⟨j, hj, hji⟩ := List.mem_filterMap.1 hi
        refine List.mem_filterMap.2 ⟨j, ?_, hji⟩
        simp only [jmps, List.mem_append, List.mem_filter]
        by_cases hjx : j ∈ jmps x
        · exact .inl hjx
        · exact .inr ⟨hj, by simpa using hjx⟩
      · intro e2 a2 w2 hi hk2 hs2 st2
        refine hR _ _ _ ?_ hk2 hs2 (st2.weaken sub_r (fun h => (hor h).2) (fun h => (hor h).2))
        simp only [jmps, List.mem_append, List.mem_filter]
        by_cases hjx : none ∈ jmps x
        · exact .inl hjx
        · exact .inr ⟨hi, by simpa using hjx⟩
    split at h'
    · rename_i hc; exact wpIn_cond_true (rdL_sound hs hc) (goX h')
    · rename_i hc; exact wpIn_cond_false (rdL_sound hs hc) (goY h')
    · rename_i b hc
      obtain ⟨ht, hf⟩ := h'
      exact wpIn_cond_split (t := b) (rdL_sound hs hc) (fun hb => goX (ht hb)) (fun hb => goY (hf hb))
    · exact h'.elim
  | block id c ih =>
    intro r n e w kn kx kr a Q hs h hN hX hR
    simp only [W] at h
    refine withJ_sound h hs hN fun kn' h' hN' => ?_
    refine wpIn_block (ih r n.fst e w kn' _ kr a _ hs h' ?_ ?_ ?_)
    · intro e1 a1 w1 hk hs1 st1; exact hN' _ _ _ hk hs1 st1
    · intro i e1 a1 w1 hi hk hs1 st1
      simp only [Exit.inBlock]
      split at hk
      · rename_i hid; rw [if_pos hid]; exact hN' _ _ _ hk hs1 st1
      · rename_i hid; rw [if_neg hid]
        refine hX i _ _ _ ?_ hk hs1 st1
        obtain ⟨j, hj, hji⟩ := List.mem_filterMap.1 hi
        refine List.mem_filterMap.2 ⟨j, List.mem_filter.2 ⟨hj, ?_⟩, hji⟩
        simp at hji; subst hji; simpa using hid
    · intro e1 a1 w1 hi hk hs1 st1
      exact hR _ _ _ (List.mem_filter.2 ⟨hi, by simp⟩) hk hs1 st1
  | scope c ih => intro r n e w kn kx kr a Q hs h; exact h.elim
  | loop c ih =>
    intro r n e w kn kx kr a Q hs h hN hX hR
    simp only [W] at h
    split at h
    · rename_i hj
      split at h
      · rename_i l hl
        obtain ⟨I, μ, h0, hround⟩ := h
        have hor : ∀ {p : Bool}, p = false → p = false ∧ p = false := fun h => ⟨h, h⟩
        refine wpIn_loop_ghost (fun m a' w' => ∃ l' lc e1, I l' w' ∧ μ l' w' = m ∧ Sim e1 a' ∧ Stp (dsts c) (rngC c) (defC c) e e1 a a' ∧ collect n.loop e1 = some lc ∧ l'.map LV.toV = lc.map LV.toV) (μ l w) ⟨l, l, e, h0, rfl, hs, Stp.refl _ _ _ _ _, hl, rfl⟩ ?_
        rintro m a1 w1 ⟨l1, lc, e1, hI, rfl, hs1, st1, hc1, hm1⟩
        have hr := hround l1 w1 hI
        rcases app_lam_bad (bad := fun _ _ => False) (ks := slotKds n.loop) (l := l1) (g := fun l w again => W P cs r c n.fst (rebuild n.loop l (keep n.keeps e)) w (meet n.loop again) kx kr) with hb | ⟨l2, hb, hm2, hT2⟩
        · rw [hb] at hr; exact hr.elim
        · rw [hb] at hr
          obtain ⟨hs2, st2⟩ := rebuild_full hj hs hs1 st1 hc1 (hm2.trans hm1) hT2
          refine ih r n.fst _ w1 _ kx kr a1 _ hs2 hr ?_ ?_ ?_
          · intro e3 a3 w3 hk hs3 st3
            obtain ⟨l3, l3', hc3, ⟨hI3, hlt⟩, hm3, hT3⟩ := meet_spec hk
            exact ⟨_, hlt, l3', l3, e3, hI3, rfl, hs3, st2.trans st3 (fun _ h => h) (fun _ h => h) hor hor, hc3, hm3⟩
          · intro i e3 a3 w3 hi hk hs3 st3
            exact hX i _ _ _ hi hk hs3 (st2.trans st3 (fun _ h => h) (fun _ h => h) hor hor)
          · intro e3 a3 w3 hi hk hs3 st3
            exact hR _ _ _ hi hk hs3 (st2.trans st3 (fun _ h => h) (fun _ h => h) hor hor)
      · exact h.elim
    · exact h.elim
  | rangeFunc g ps asg body iha ihb =>
    intro r n e w kn kx kr a Q hs h hN hX hR
    simp only [W] at h
    split at h
    · rename_i v hv
      split at h
      · rename_i hlen
        have hlen' : n.rng.length = ps.size := by simpa using hlen
        obtain ⟨hl0, hk⟩ := h
        have hgv : a.eval g = v := rdL_sound hs hv
        refine wpIn_rangeFunc fun fn _ => ?_
        have main : ∀ (w1 : World) (mark : List Deferred) (dfs : Nat) (ms : List Nat), w1 = (match (generalizing := false) r with | none => w.alloc (.deferred (some [])) | some _ => w) →
            ms = (match (generalizing := false) r with | none => w.heap.size :: e.marks | some _ => e.marks) → mark ++ a.defers = dfOf ⟨e.t, e.n, e.calls, ms⟩ →
            (Instr.enterLoop fn a.tmps ps asg body (FW r).round).run P w = .ok (w1.heap.size, mark) (w1.alloc (.loop (lrec fn a.tmps ps asg body dfs))) →
            ∃ (l : Nat) (mark : List Deferred) (w₁ : World) (d : Deferred) (w₁' : World) (f : FuncId) (args : Array Value) (w₂ : World),
              (Instr.enterLoop fn a.tmps ps asg body (FW r).round).run P w = .ok (l, mark) w₁ ∧
              (resolve a.eval (rangeCall g l) 0).run P w₁ = .ok d w₁' ∧
              (∀ f', Target.leads P w₁' d.target d.args = some f' → (FW r).fn f') ∧
              (invoke d.target d.args).run P w₁' = .ok (.enter f args) w₂ ∧
              ((FW r).depth.isSome = true → 1 ≤ 0) ∧
              CallsIn (FW r) (0 - 1) P f args w₂ (rangePost (FW r) 0 P l Q { a with defers := mark ++ a.defers }) := by
          intro w1 mark dfs ms hw1 hms hdf hent
          have hin := hk (recOf (lrec fn a.tmps ps asg body dfs) (jmps body)) w1 w1.heap.size (fun s => recOf_loop _ _ s) hw1 rfl ?_
          · have hst : Stp (dsts (.rangeFunc g ps asg body)) (rngC (.rangeFunc g ps asg body)) (defC (.rangeFunc g ps asg body)) e ⟨e.t, e.n, e.calls, ms⟩ a { a with defers := mark ++ a.defers } :=
              ⟨fun _ _ => rfl, fun _ => rfl, (fun h => by cases h), rfl⟩
            have hsm : Sim ⟨e.t, e.n, e.calls, ms⟩ { a with defers := mark ++ a.defers } := ⟨hs.size, hs.get, hdf⟩
            have hms' : ∀ r' : Nat, r' = w.heap.size → (match (generalizing := false) r with | none => r' :: e.marks | some _ => e.marks) = ms := by rintro _ rfl; exact hms.symm
            have := call_sound (Q := Q) (a' := { a with defers := mark ++ a.defers }) (r := r) hgv hin fun w3 u hK => after_sound (rec := lrec fn a.tmps ps asg body dfs) (js := jmps body) (b := w.heap.size)
              (An := fun r' w' => kn ⟨e.t, e.n, e.calls, match (generalizing := false) r with | none => r' :: e.marks | some _ => e.marks⟩ w')
              (As := (jmps body).map fun j r' w' => match j with | none => kr ⟨e.t, e.n, e.calls, match (generalizing := false) r with | none => r' :: e.marks | some _ => e.marks⟩ w' | some i => kx i ⟨e.t, e.n, e.calls, match (generalizing := false) r with | none => r' :: e.marks | some _ => e.marks⟩ w') hK ?_ ?_ u
            · obtain ⟨d, w₁', f, args, w₂, h⟩ := this
              exact ⟨_, mark, _, d, w₁', f, args, w₂, hent, h⟩
            · intro w' hA
              simp only [hms' _ rfl] at hA
              exact hN _ _ _ hA hsm hst
            · intro j A hj
              rw [List.getElem?_map] at hj
              obtain ⟨jj, hjj, rfl⟩ := Option.map_eq_some_iff.1 hj
              have hmem : jj ∈ jmps body := List.mem_of_getElem? hjj
              refine ⟨jj, hjj, fun w' hA => ?_⟩
              cases jj with
              | none => simp only [hms' _ rfl] at hA; exact hR _ _ _ hmem hA hsm hst
              | some i => simp only [hms' _ rfl] at hA; exact hX i _ _ _ (List.mem_filterMap.2 ⟨_, hmem, rfl⟩) hA hsm hst
          · intro xs w' K hrec happ
            rcases app_lam_bad (bad := fun _ _ _ _ => False) (ks := kdsOf n.rng) (l := xs) (g := fun l w (beg : World → (World → Prop) → Prop) (next : World → Prop) (leave : Nat → World → Prop) =>
              W P cs (some w1.heap.size) asg n.fst (setPs ps.toList (mkAVs n.rng l) ⟨e.t, e.n, [], []⟩) w
              (fun e1 w1' => beg w1' fun w2 => W P cs (some w1.heap.size) body n.snd e1 w2 (fun _ w => next w) (fun i _ w => leave (idxOf (some i) (jmps body)) w) (fun _ w => leave (idxOf none (jmps body)) w))
              (fun _ _ _ => False) (fun _ _ => False)) with hb | ⟨l2, hb, hm2, hT2⟩
            · rw [hb] at happ; exact happ.elim
            · rw [hb] at happ
              have hl2 : xs.length = (kdsOf n.rng).length := by
                rw [← hT2.length]; have := congrArg List.length hm2; simpa using this.symm
              refine yield_at hlen' hrec hl2 ?_
              rw [← mkAVs_congr n.rng xs l2 hm2]
              obtain ⟨s1, s2, s3⟩ := setPs_sim ps.toList (mkAVs n.rng l2) ⟨e.t, e.n, [], []⟩ a.tmps ⟨hs.size, hs.get⟩ (by rw [mkAVs_length n.rng l2 (by rw [hT2.length]), hlen']; simp)
              refine iha (some w1.heap.size) n.fst _ w' _ _ _ _ _ ⟨s1.size, s1.get, by unfold dfOf; rw [s2, s3]; rfl⟩ happ ?_ (fun _ _ _ _ _ h => h.elim) (fun _ _ _ _ h => h.elim)
              intro e1 a1 w2 hbeg hs1 _
              refine ⟨_, run_beginRound hbeg.1 rfl, ?_⟩
              refine ihb (some w1.heap.size) n.snd _ _ _ _ _ _ _ hs1 hbeg.2 ?_ ?_ ?_
              · intro e2 a2 w4 hk2 _ _; exact rp_normal hk2
              · intro i e2 a2 w4 hi hk2 _ _
                obtain ⟨j, hj, hji⟩ := List.mem_filterMap.1 hi
                simp at hji; subst hji
                exact rp_exit hj hk2
              · intro e2 a2 w4 hi hk2 _ _; exact rp_ret hi hk2
        cases r with
        | none =>
          refine main (w.alloc (.deferred (some []))) [{ target := .collected w.heap.size, args := #[] }] w.heap.size (w.heap.size :: e.marks) rfl rfl ?_ ?_
          · rw [hs.dfs]; rfl
          · have := run_enterLoop_outer (P := P) (w := w) fn a.tmps ps asg body
            rw [World.size_alloc]; exact this
        | some l0 =>
          have := hl0 l0 rfl
          cases ho : w.heap[l0]? with
          | none => rw [ho] at this; cases this
          | some o =>
            cases o with
            | loop rec0 =>
              refine main w [] rec0.defers e.marks rfl rfl (by rw [hs.dfs]; rfl) ?_
              show (Instr.enterLoop fn a.tmps ps asg body (some l0)).run P w = _
              unfold Instr.enterLoop
              simp only [Sem.run_bind, run_getLoop ho, run_newObj_alloc, Result.andThen, Sem.run_pure]
            | _ => rw [ho] at this; cases this
      · exact h.elim
    · exact h.elim
end Go.Vw
