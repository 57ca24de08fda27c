/- The typed reading is sound, ninth part: code. -/
import Derived.Test.YtfhojgammfkabaaW9
import Derived.Sort.LoopGhostIn
namespace Go.Vw
variable {P : Program}

/-! ### where ways meet -/
structure SimT (e : Env) (a : Act) : Prop where
  size : a.tmps.size = e.n
  get : ∀ t v, eget e t = some v → a.tmps[t]? = some v.toV
theorem Sim.t {e : Env} {a : Act} (h : Sim e a) : SimT e a := ⟨h.size, h.get⟩
theorem SimT.learn {e : Env} {a : Act} (h : SimT e a) {d : Nat} {t : TV} (ht : a.tmps[d]? = some t.toV) : SimT (eset e d t) a := by
  refine ⟨by simp [eset, h.size], fun m v hv => ?_⟩
  rw [eget_eset] at hv
  split at hv
  · split at hv
    · rename_i hm; subst hm; cases hv; exact ht
    · exact h.get m v hv
  · exact h.get m v hv
theorem keepT_get : ∀ (l : List (Nat × TV)) (ks : List Nat) (t : Nat) (v : TV), lget (keepT l ks) t = some v → t ∈ ks ∧ lget l t = some v
  | l, [], t, v, h => by simp [keepT, lget] at h
  | l, k :: ks, t, v, h => by
    simp only [keepT] at h
    split at h
    · rename_i u hu
      rw [lget_cons] at h
      split at h
      · rename_i hk; subst hk; cases h; exact ⟨List.mem_cons_self, hu⟩
      · obtain ⟨h1, h2⟩ := keepT_get l ks t v h; exact ⟨List.mem_cons_of_mem _ h1, h2⟩
    · obtain ⟨h1, h2⟩ := keepT_get l ks t v h; exact ⟨List.mem_cons_of_mem _ h1, h2⟩
theorem keep_sim {e : Env} {a a' : Act} {ks ds : List Nat} (hs : SimT e a) (hk : ∀ k ∈ ks, k ∉ ds) (ht : ∀ t, t ∉ ds → a'.tmps[t]? = a.tmps[t]?) (hsz : a'.tmps.size = a.tmps.size) : SimT (keep ks e) a' :=
  ⟨hsz.trans hs.size, fun t v hv => by
    obtain ⟨h1, h2⟩ := keepT_get e.t ks t v hv
    rw [ht t (hk t h1)]; exact hs.get t v h2⟩
theorem marks_inj {m : List Nat} {x : LV} {d : Den .marks} (hx : x = LV.mk .marks d) (h : x.toV = (LV.marks m).toV) : x = .marks m := by
  subst hx
  have h' : (Value.func (.func 0) (List.map (fun r => Value.map (some r)) d).toArray #[]) = Value.func (.func 0) (List.map (fun r => Value.map (some r)) m).toArray #[] := h
  injection h' with _ h2 _
  have h3 : List.map (fun r => Value.map (some r)) d = List.map (fun r => Value.map (some r)) m := by
    have := congrArg Array.toList h2; simpa using this
  have : d = m := by
    have hinj : ∀ (a b : List Nat), List.map (fun r => Value.map (some r)) a = List.map (fun r => Value.map (some r)) b → a = b := by
      intro a
      induction a with
      | nil => intro b hb; cases b with
        | nil => rfl
        | cons => simp at hb
      | cons x a ih => intro b hb; cases b with
        | nil => simp at hb
        | cons y b => simp at hb; rw [hb.1, ih b (by simpa using hb.2)]
    exact hinj _ _ h3
  subst this; rfl
theorem Ty.drop : ∀ {k1 ks : List Kd} {l : List LV}, Ty (k1 ++ ks) l → Ty ks (l.drop k1.length)
  | [], _, _, h => by simpa using h
  | _ :: k1, ks, [], h => h.elim
  | _ :: k1, ks, _ :: l, h => by simpa using Ty.drop (k1 := k1) h.2
theorem rebuild_sim {e' : Env} {a' : Act} (hs : SimT e' a') : ∀ (sl : Slots) (l l' : List LV) (E : Env), collect sl e' = some l → l'.map LV.toV = l.map LV.toV → Ty (slotKds sl) l' → SimT E a' →
    SimT (rebuild sl l' E) a' ∧ (rebuild sl l' E).calls = E.calls ∧ (rebuild sl l' E).n = E.n ∧ (rebuild sl l' E).marks = if hasMarks sl then e'.marks else E.marks
  | [], l, l', E, _, _, _, hE => ⟨hE, rfl, rfl, rfl⟩
  | .tmp t (.leaf k) :: sl, l, l', E, hc, hm, hT, hE => by
    simp only [collect] at hc
    split at hc
    · rename_i x l2 _ hx hl2
      rename_i heq
      cases hc
      obtain ⟨x', l2', rfl, h1, h2⟩ := map_eq_cons' hm
      have := rebuild_sim hs sl l2 l2' (eset E t (.one (.leaf x'))) hl2 h2 hT.2 (hE.learn (by rw [hs.get t _ hx]; simp [TV.toV, AV.toV, h1]))
      exact this
    · rename_i heq _ _; cases heq
    · cases hc
  | .tmp t (.agg ks) :: sl, l, l', E, hc, hm, hT, hE => by
    simp only [collect] at hc
    split at hc
    · rename_i heq _ _; cases heq
    · rename_i ks' xs l2 heq hx hl2
      cases heq
      split at hc
      · rename_i hlen; cases hc
        have hl' : (l'.take ks.length).map LV.toV = xs.map LV.toV := by
          rw [List.map_take, hm, List.map_append, List.take_left' (by simp [hlen])]
        have hd' : (l'.drop ks.length).map LV.toV = l2.map LV.toV := by
          rw [List.map_drop, hm, List.map_append, List.drop_left' (by simp [hlen])]
        have := rebuild_sim hs sl l2 (l'.drop ks.length) (eset E t (.one (.agg (l'.take ks.length)))) hl2 hd' (Ty.drop hT) (hE.learn (by rw [hs.get t _ hx]; simp [TV.toV, AV.toV, hl']))
        cases l' with
        | nil => exact this
        | cons y l' => exact this
      · cases hc
    · cases hc
  | .marks :: sl, l, l', E, hc, hm, hT, hE => by
    simp only [collect] at hc
    split at hc
    · rename_i l2 hl2; cases hc
      obtain ⟨x', l2', rfl, h1, h2⟩ := map_eq_cons' hm
      obtain ⟨d, hd⟩ := hT.1
      have := marks_inj hd h1
      subst this
      have hE' : SimT ⟨E.t, E.n, E.calls, e'.marks⟩ a' := ⟨hE.size, hE.get⟩
      obtain ⟨r1, r2, r3, r4⟩ := rebuild_sim hs sl l2 l2' ⟨E.t, E.n, E.calls, e'.marks⟩ hl2 h2 hT.2 hE'
      refine ⟨r1, r2, r3, ?_⟩
      have r4' : (rebuild (.marks :: sl) (.marks e'.marks :: l2') E).marks = if hasMarks sl then e'.marks else e'.marks := r4
      rw [r4']
      have : hasMarks (.marks :: sl) = true := rfl
      rw [if_pos this]; split <;> rfl
    · cases hc

theorem joinOk_spec {sl : Slots} {ks : List Nat} {c : Code} (h : joinOk sl ks c = true) : defC c = false ∧ (rngC c = false ∨ hasMarks sl = true) ∧ ∀ k ∈ ks, k ∉ dsts c := by
  unfold joinOk at h
  simp only [Bool.and_eq_true, Bool.not_eq_true', Bool.or_eq_true] at h
  refine ⟨h.1.1, h.1.2, fun k hk => ?_⟩
  have := List.all_eq_true.1 h.2 k hk
  simpa using this
/-- behind the meeting of ways -/
theorem rebuild_full {c : Code} {sl : Slots} {ks : List Nat} {e e' : Env} {a a' : Act} (hj : joinOk sl ks c = true) (hs : Sim e a) (hs' : Sim e' a') (st : Stp (dsts c) (rngC c) (defC c) e e' a a') {l l' : List LV}
    (hc : collect sl e' = some l) (hm : l'.map LV.toV = l.map LV.toV) (hT : Ty (slotKds sl) l') :
    Sim (rebuild sl l' (keep ks e)) a' ∧ Stp (dsts c) (rngC c) (defC c) e (rebuild sl l' (keep ks e)) a a' := by
  obtain ⟨j1, j2, j3⟩ := joinOk_spec hj
  have hsz : a'.tmps.size = a.tmps.size := by rw [hs'.size, hs.size, st.n]
  obtain ⟨r1, r2, r3, r4⟩ := rebuild_sim hs'.t sl l l' (keep ks e) hc hm hT (keep_sim hs.t j3 st.tmps hsz)
  have hmk : (rebuild sl l' (keep ks e)).marks = e'.marks := by
    rw [r4]
    split
    · rfl
    · rename_i hn
      rcases j2 with h | h
      · exact (st.marks h).symm
      · exact absurd h hn
  have hcl : (rebuild sl l' (keep ks e)).calls = e'.calls := r2.trans (st.calls j1).symm
  refine ⟨⟨r1.size, r1.get, ?_⟩, st.tmps, fun h => r2, fun h => ?_, r3⟩
  · rw [hs'.dfs]; unfold dfOf; rw [hmk, hcl]
  · rw [hmk]; exact st.marks h
theorem meet_spec {sl : Slots} {g : List LV → World → Prop} {e : Env} {w : World} (h : meet sl (lam (slotKds sl) g) e w) : ∃ l l', collect sl e = some l ∧ g l' w ∧ l'.map LV.toV = l.map LV.toV ∧ Ty (slotKds sl) l' := by
  unfold meet at h
  split at h
  · rename_i l hl
    obtain ⟨l', h1, h2, h3⟩ := app_noW h
    exact ⟨l, l', hl, h1, h2, h3⟩
  · exact h.elim
theorem withJ_sound {j : Option Slots} {ks : List Nat} {c : Code} {e : Env} {a : Act} {kn : Env → World → Prop} {A : (Env → World → Prop) → Prop} (h : withJ j ks c e kn A) (hs : Sim e a) {Q : Act → World → Prop} {G : Prop}
    (hN : ∀ e' a' w', kn e' w' → Sim e' a' → Stp (dsts c) (rngC c) (defC c) e e' a a' → Q a' w')
    (hG : ∀ kn', A kn' → (∀ e' a' w', kn' e' w' → Sim e' a' → Stp (dsts c) (rngC c) (defC c) e e' a a' → Q a' w') → G) : G := by
  unfold withJ at h
  split at h
  · exact hG kn h hN
  · rename_i sl
    split at h
    · rename_i hj
      refine hG _ h fun e' a' w' hm hs' st => ?_
      obtain ⟨l, l', hc, hk, hmap, hT⟩ := meet_spec hm
      obtain ⟨g1, g2⟩ := rebuild_full hj hs hs' st hc hmap hT
      exact hN _ _ _ hk g1 g2
    · exact h.elim
theorem defC_region {i : Nat} {ops : Array Oper} {b : Bool} : defC (.region i ops b) = dfrO ops.toList := rfl
theorem rng_region {i : Nat} {ops : Array Oper} {b : Bool} : rngC (.region i ops b) = false := rfl
end Go.Vw
