/- The typed reading is sound, eleventh part: a function's contract. -/
import Derived.Test.YtfhojgammfkabaaW11
namespace Go.Vw
variable {P : Program}

theorem fitL_mk : ∀ (ss : List Sh) (xs : List AV) (l : List LV), fitL ss xs = some l → mkAVs ss l = xs
  | [], [], l, h => by simp [fitL] at h; subst h; rfl
  | [], _ :: _, l, h => by simp [fitL] at h
  | .leaf k :: ss, [], l, h => by simp [fitL] at h
  | .leaf k :: ss, .agg xs :: r, l, h => by simp [fitL] at h
  | .leaf k :: ss, .leaf x :: r, l, h => by
    simp only [fitL] at h
    obtain ⟨l', hl, rfl⟩ := Option.map_eq_some_iff.1 h
    simp only [mkAVs, fitL_mk ss r l' hl]
  | .agg ks :: ss, [], l, h => by simp [fitL] at h
  | .agg ks :: ss, .leaf x :: r, l, h => by simp [fitL] at h
  | .agg ks :: ss, .agg xs :: r, l, h => by
    simp only [fitL] at h
    split at h
    · rename_i hk
      obtain ⟨l', hl, rfl⟩ := Option.map_eq_some_iff.1 h
      simp only [mkAVs, ← hk, List.take_left', List.drop_left', fitL_mk ss r l' hl]
    · cases h
theorem onesOf_map : ∀ (vs : List TV) (xs : List AV), onesOf vs = some xs → vs = xs.map TV.one
  | [], xs, h => by simp [onesOf] at h; subst h; rfl
  | .one x :: r, xs, h => by
    simp only [onesOf] at h
    obtain ⟨l, hl, rfl⟩ := Option.map_eq_some_iff.1 h
    simp [onesOf_map r l hl]
  | .tup _ :: r, xs, h => by simp [onesOf] at h
/-- the value of a function's results -/
def resV (vs : List Value) : Value := match vs with
  | [v] => v
  | vs => .tuple vs.toArray
theorem fitR_mk {rt : RT} {vs : List TV} {l : List LV} (h : fitR rt vs = some l) : (rt.mk l).toV = resV (vs.map TV.toV) := by
  unfold fitR at h
  split at h
  · cases h
  · rename_i xs hxs
    have hm := onesOf_map _ _ hxs
    subst hm
    split at h
    · rename_i s x
      have := fitL_mk _ _ _ h
      cases s with
      | leaf k =>
        cases l with
        | nil => simp [mkAVs] at this
        | cons y l => simp [mkAVs] at this; rw [← this]; rfl
      | agg ks =>
        simp [mkAVs] at this
        cases x with
        | leaf x => simp [fitL] at h
        | agg ys =>
          simp only [fitL] at h
          split at h
          · cases h; simp [RT.mk, TV.toV, resV, AV.toV]
          · cases h
    · cases h
    · cases h
    · rename_i hne
      have := fitL_mk _ _ _ h
      simp only [RT.mk, this, TV.toV, List.map_map]
      have he : (TV.toV ∘ TV.one) = AV.toV := rfl
      rw [he]
      unfold resV
      split
      · rename_i v hv
        rcases xs with _ | ⟨x, _ | ⟨y, xs⟩⟩
        · simp at hv
        · exact absurd rfl (hne x)
        · simp at hv
      · rfl

theorem mapM_runL {α : Type} (f : α → Sem Value) (w : World) : ∀ (xs : List α) (vs : List Value), vs.length = xs.length → (∀ (i : Nat) (x : α), xs[i]? = some x → ∃ v, vs[i]? = some v ∧ (f x).run P w = .ok v w) → (xs.mapM f).run P w = .ok vs w
  | [], [], _, _ => rfl
  | [], _ :: _, h, _ => by simp at h
  | _ :: _, [], h, _ => by simp at h
  | x :: xs, v :: vs, hl, h => by
    obtain ⟨v', hv, hr⟩ := h 0 x rfl
    simp at hv; subst hv
    rw [List.mapM_cons, Sem.run_bind, hr]
    simp only [Result.andThen]
    rw [Sem.run_bind, mapM_runL f w xs vs (by simpa using hl) fun i y hy => by simpa using h (i + 1) y (by simpa using hy)]
    rfl
theorem mapM_run {α : Type} (f : α → Sem Value) (w : World) (xs : Array α) (vs : List Value) (hl : vs.length = xs.toList.length) (h : ∀ (i : Nat) (x : α), xs.toList[i]? = some x → ∃ v, vs[i]? = some v ∧ (f x).run P w = .ok v w) : (xs.mapM f).run P w = .ok vs.toArray w := by
  rw [Array.mapM_eq_mapM_toList, Sem.run_map, mapM_runL f w xs.toList vs hl h]
  rfl
def rvS (a : Act) : ResultVar → Sem Value
  | .tmp t => pure (a.tmps.getD t undef)
  | .cell b t => do loadVar t (← asAddr (a.tmps.getD b undef))
theorem results1_sound {e : Env} {a : Act} (hs : Sim e a) (w : World) : ∀ (rs : List ResultVar) (acc : List TV) (k : List TV → Prop), results1 P e w rs acc k →
    ∃ vs : List Value, vs.length = rs.length ∧ (∀ (i : Nat) (x : ResultVar), rs[i]? = some x → ∃ v, vs[i]? = some v ∧ (rvS a x).run P w = .ok v w) ∧ ∃ ts : List TV, ts.map TV.toV = vs ∧ k (acc.reverse ++ ts)
  | [], acc, k, h => ⟨[], rfl, by simp, [], rfl, by simpa [results1] using h⟩
  | .tmp t :: r, acc, k, h => by
    simp only [results1] at h
    split at h
    · rename_i v hv
      obtain ⟨vs, hl, hr, ts, hts, hk⟩ := results1_sound hs w r (v :: acc) k h
      refine ⟨v.toV :: vs, by simp [hl], ?_, v :: ts, by simp [hts], by simpa using hk⟩
      intro i x hx
      cases i with
      | zero =>
        simp at hx; subst hx
        refine ⟨v.toV, rfl, ?_⟩
        simp [rvS, Array.getD_eq_getD_getElem?, hs.get t v hv]
      | succ i => simpa using hr i x (by simpa using hx)
    · exact h.elim
  | .cell b t :: r, acc, k, h => by
    simp only [results1] at h
    split at h
    · rename_i p hp
      obtain ⟨v, hk, hr⟩ := lo1_sound hs (fun u => u = w) (ld_sound w) (o := ⟨none, .load t (.tmp b), 0, "", #[], none⟩) hp h
      obtain ⟨vs, hl, hr', ts, hts, hk'⟩ := results1_sound hs w r (v :: acc) k hk
      refine ⟨v.toV :: vs, by simp [hl], ?_, v :: ts, by simp [hts], by simpa using hk'⟩
      intro i x hx
      cases i with
      | zero =>
        simp at hx; subst hx
        refine ⟨v.toV, rfl, ?_⟩
        have := hr w rfl
        have he : a.tmps.getD b undef = a.eval (.tmp b) := rfl
        simp only [rvS, he, Sem.run_bind]
        simp only [execOp, Instr.loadAt, Sem.run_bind, Result.andThen] at this
        revert this
        cases a.eval (.tmp b) with
        | pointer p =>
          cases p with
          | some ad =>
            simp only [Instr.sureAddr, asAddr, Sem.run_pure, Result.andThen]
            intro h
            cases hl : (loadVar t ad).run P w with
            | ok x u => rw [hl] at h; simp at h; obtain ⟨rfl, rfl⟩ := h; rfl
            | halt s u => rw [hl] at h; simp at h
          | none => intro h; simp [Instr.sureAddr, Result.andThen] at h
        | _ => intro h; simp [Instr.sureAddr, Result.andThen] at h
      | succ i => simpa using hr' i x (by simpa using hx)
    · exact h.elim
theorem results_sound {fn : Func} {e : Env} {a : Act} (hs : Sim e a) {w : World} {rt : RT} {K : Fn rt.kds (World → Prop)}
    (h : results1 P e w fn.results.toList [] fun vs => match fitR rt vs with | some l => app noW rt.kds K l w | none => False) :
    ∃ v, (results fn a.tmps).run P w = .ok v w ∧ ∃ l, v = (rt.mk l).toV ∧ app noW rt.kds K l w := by
  obtain ⟨vs, hl, hr, ts, hts, hk⟩ := results1_sound hs w _ _ _ h
  simp only [List.reverse_nil, List.nil_append] at hk
  split at hk
  · rename_i l hfit
    refine ⟨resV vs, ?_, l, by rw [fitR_mk hfit, hts], hk⟩
    have hm := mapM_run (P := P) (rvS a) w fn.results vs hl hr
    have he : results fn a.tmps = (fn.results.mapM (rvS a) >>= fun vs => pure (if h : vs.size = 1 then vs[0] else .tuple vs)) := by
      unfold results
      congr 1
    rw [he, Sem.run_bind, hm]
    simp only [Result.andThen, Sem.run_pure]
    congr 1
    match vs with
    | [] => rfl
    | [v] => rfl
    | v :: u :: r => simp [resV]
  · exact hk.elim
/-- a function on its way out -/
theorem leaves_sound {fn : Func} {R : Ending → World → Prop} {t : Array Value} : ∀ (cs : List (FuncId × List AV)) (w : World) (k : World → Prop), callsK P cs w k → (∀ w', k w' → ∃ v, (results fn t).run P w' = .ok v w' ∧ R (.returned v) w') →
    LeavesInM (FW none) 0 P fn t R (cs.map fun c => { target := .fn (.func c.1) #[], args := (c.2.map AV.toV).toArray }) .returning w
  | [], w, k, h, hk => hk _ h
  | (f, l) :: r, w, k, h, hk => by
    obtain ⟨hf, hc⟩ := h
    refine ⟨(by simp), .inr ⟨(fun h => by cases h), .func f, #[], f, (l.map AV.toV).toArray, rfl, (by simp [invoke, run_callFunc hf]), (fun _ _ => trivial), ?_⟩⟩
    refine CallsDIn.mono hc ?_
    rintro e u w' ⟨rfl, ⟨v, rfl⟩, hk'⟩
    exact leaves_sound r w' k hk' hk
theorem close_sound {fn : Func} {R : Ending → World → Prop} {t : Array Value} (ds : List Deferred) : ∀ (ms : List Nat) (w : World) (k : World → Prop), closeK ms w k → (∀ w', k w' → LeavesInM (FW none) 0 P fn t R ds .returning w') →
    LeavesInM (FW none) 0 P fn t R (ms.map (fun r => { target := .collected r, args := #[] }) ++ ds) .returning w
  | [], w, k, h, hk => hk _ h
  | r :: rs, w, k, h, hk => ⟨(by simp), .inl ⟨r, _, rfl, run_takeDeferred h.1, close_sound ds rs _ k h.2 hk⟩⟩
/-- **A FUNCTION's CONTRACT** -/
theorem args0_get : ∀ (args : List AV) (i t : Nat) (v : TV), lget (args0 i args) t = some v → ∃ x, args[t - i]? = some x ∧ i ≤ t ∧ v = .one x
  | [], i, t, v, h => by simp [args0, lget] at h
  | x :: r, i, t, v, h => by
    simp only [args0, lget_cons] at h
    split at h
    · rename_i hit; subst hit; cases h; exact ⟨x, by simp, Nat.le_refl _, rfl⟩
    · obtain ⟨y, h1, h2, h3⟩ := args0_get r (i + 1) t v h
      refine ⟨y, ?_, by omega, h3⟩
      have : t - i = (t - (i + 1)) + 1 := by omega
      rw [this]; simpa using h1
theorem env0_sim {n : Nat} {args : List AV} (h : args.length ≤ n) : Sim (env0 n args) { tmps := (args.map AV.toV).toArray ++ Array.replicate (n - (args.map AV.toV).toArray.size) undef, defers := [] } := by
  refine ⟨by simp [env0]; omega, fun t v hv => ?_, rfl⟩
  obtain ⟨x, h1, h2, rfl⟩ := args0_get args 0 t v hv
  simp only [Nat.sub_zero] at h1
  have hlt : t < args.length := (List.getElem?_eq_some_iff.1 h1).1
  rw [Array.getElem?_append_left (by simpa using hlt)]
  simp [h1, TV.toV]
theorem retW_sound {fn : Func} {rt : RT} {K : Fn rt.kds (World → Prop)} {e : Env} {a : Act} {w : World} (hs : Sim e a) (h : retW P fn rt K e w) (hx : e.calls = [] ∨ e.marks = []) :
    LeavesInM (FW none) 0 P fn a.tmps (fun e' w' => ∃ l : List LV, e' = .returned (rt.mk l).toV ∧ app noW rt.kds K l w') a.defers .returning w := by
  unfold retW at h
  rw [hs.dfs]
  unfold dfOf
  have fin : ∀ w', (results1 P e w' fn.results.toList [] fun vs => match fitR rt vs with | some l => app noW rt.kds K l w' | none => False) →
      ∃ v, (results fn a.tmps).run P w' = .ok v w' ∧ (∃ l : List LV, (Ending.returned v) = .returned (rt.mk l).toV ∧ app noW rt.kds K l w') := fun w' h' => by
    obtain ⟨v, hr, l, rfl, hk⟩ := results_sound hs h'
    exact ⟨_, hr, l, rfl, hk⟩
  rcases hx with hx | hx
  · rw [hx] at h ⊢
    exact close_sound _ _ _ _ h fun w' h' => fin w' h'
  · rw [hx] at h ⊢
    exact leaves_sound _ _ _ h fun w' h' => fin w' h'
theorem WF_sound {cs : List Nat} (hcs : ∀ f, cs.contains f = true → callable P f = true) (hm : P.follows .mixedOrders = true) {f : FuncId} {fn : Func} (hf : P.funcs[f]? = some fn) {n : Ann} {rt : RT} {args : List AV} {K : Fn rt.kds (World → Prop)} {w : World}
    (h : WF P cs fn n rt args K w) : callK P f args w rt K := by
  unfold WF at h
  split at h
  · rename_i c hb
    split at h
    · rename_i hc
      simp only [Bool.and_eq_true, decide_eq_true_eq, Bool.not_eq_true'] at hc
      obtain ⟨hlen, hx⟩ := hc
      refine in_calls (callsIn_of_wp_marks hf hb trivial ?_)
      have hx' : ∀ e', ∀ a', Stp (dsts c) (rngC c) (defC c) (env0 fn.ntmps args) e' { tmps := (args.map AV.toV).toArray ++ Array.replicate (fn.ntmps - (args.map AV.toV).toArray.size) undef, defers := [] } a' → e'.calls = [] ∨ e'.marks = [] := by
        intro e' a' st
        rcases Bool.and_eq_false_iff.1 hx with h | h
        · exact .inr (st.marks h)
        · exact .inl (st.calls h)
      refine W_sound hcs hm c none n _ w _ _ _ _ _ (env0_sim hlen) h ?_ ?_ ?_
      · intro e' a' w' hk hs st; exact retW_sound hs hk (hx' _ _ st)
      · intro i e' a' w' _ hk; exact hk.elim
      · intro e' a' w' _ hk hs st; exact retW_sound hs hk (hx' _ _ st)
    · exact h.elim
  · exact h.elim
/-- a function that is called behind a return -/
theorem WF_defer {cs : List Nat} (hcs : ∀ f, cs.contains f = true → callable P f = true) (hm : P.follows .mixedOrders = true) {f : FuncId} {fn : Func} (hf : P.funcs[f]? = some fn) (hcf : callable P f = true) {n : Ann} {rt : RT} {args : List AV} {K : Fn rt.kds (World → Prop)} {w : World}
    (h : WF P cs fn n rt args K w) (hno : fn.body.any (fun c => rngC c || defC c) = false) {K' : World → Prop} (hk : ∀ l w', app noW rt.kds K l w' → K' w') : deferK P f args w K' := by
  unfold WF at h
  split at h
  · rename_i c hb
    simp only [hb, Option.any_some, Bool.or_eq_false_iff] at hno
    split at h
    · rename_i hc
      simp only [Bool.and_eq_true, decide_eq_true_eq, Bool.not_eq_true'] at hc
      obtain ⟨hlen, hx⟩ := hc
      refine ⟨hcf, CallsDIn.mono (callsDIn_of_wp (R := fun e' w' => ∃ l : List LV, e' = .returned (rt.mk l).toV ∧ app noW rt.kds K l w') hf hb trivial ?_ rfl) ?_⟩
      · have fin : ∀ e' a' w', retW P fn rt K e' w' → Sim e' a' → Stp (dsts c) (rngC c) (defC c) (env0 fn.ntmps args) e' { tmps := (args.map AV.toV).toArray ++ Array.replicate (fn.ntmps - (args.map AV.toV).toArray.size) undef, defers := [] } a' → 
            a'.defers = [] ∧ ∃ v, (results fn a'.tmps).run P w' = .ok v w' ∧ ∃ l : List LV, (Ending.returned v) = .returned (rt.mk l).toV ∧ app noW rt.kds K l w' := by
          intro e' a' w' hk hs st
          have h1 : e'.calls = [] := st.calls hno.2
          have h2 : e'.marks = [] := st.marks hno.1
          refine ⟨by rw [hs.dfs]; unfold dfOf; rw [h1, h2]; rfl, ?_⟩
          unfold retW at hk
          rw [h1, h2] at hk
          obtain ⟨v, hr, l, rfl, hk⟩ := results_sound hs hk
          exact ⟨_, hr, l, rfl, hk⟩
        refine W_sound hcs hm c none n _ w _ _ _ _ _ (env0_sim hlen) h ?_ ?_ ?_
        · intro e' a' w' hk hs st; exact fin _ _ _ hk hs st
        · intro i e' a' w' _ hk; exact hk.elim
        · intro e' a' w' _ hk hs st; exact fin _ _ _ hk hs st
      · rintro e u w' ⟨rfl, l, rfl, hkl⟩
        exact ⟨rfl, ⟨_, rfl⟩, hk _ _ hkl⟩
    · exact h.elim
  · exact h.elim
end Go.Vw
