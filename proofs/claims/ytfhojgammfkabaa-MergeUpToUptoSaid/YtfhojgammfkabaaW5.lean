/- The typed reading is sound, fourth part: operations on the world, calls. -/
import Derived.Test.YtfhojgammfkabaaW4
import Derived.IntWalk
namespace Go.Vw
variable {P : Program}

/-- the fence in which all is told: none, but for the round that an activation may be of -/
def FW (r : Option Nat) : Fence := { fn := fun _ => True, depth := none, alive := false, round := r }
theorem FW_room (r : Option Nat) (n : Nat) : (FW r).room n := fun _ h => by cases h
theorem calls_in {r : Option Nat} {f : FuncId} {args : Array Value} {w : World} {R : Ending → World → Prop} (h : Calls P f args w R) : CallsIn (FW r) 0 P f args w R :=
  ⟨trivial, fun cs _ => let ⟨e, w', fr, hr, s, x⟩ := h cs; ⟨e, w', fr, hr, comesIn_wide.2 s, x⟩⟩
theorem in_calls {f : FuncId} {args : Array Value} {w : World} {R : Ending → World → Prop} (h : CallsIn (FW none) 0 P f args w R) : Calls P f args w R :=
  fun cs => let ⟨e, w', fr, hr, s, x⟩ := h.2 cs (FW_room _ _); ⟨e, w', fr, hr, s.comes, x⟩
theorem round_in {r : Option Nat} {l : Nat} {f : FuncId} {tmps : Array Value} {assign body : Code} {w : World} {R : Ending → World → Prop} (h : RoundIn Fence.wide 0 P l f tmps assign body w R) :
    RoundIn (FW r) 0 P l f tmps assign body w R := h

/-! ### typed results -/
theorem LV.as_mk (k : Kd) (d : Den k) : (LV.mk k d).as k = some d := by cases k <;> simp [LV.as, LV.mk, LV.toV]
/-- values of these kinds -/
def Ty : List Kd → List LV → Prop
  | [], [] => True
  | k :: ks, x :: l => (∃ d, x = LV.mk k d) ∧ Ty ks l
  | _, _ => False
theorem Ty.length : ∀ {ks : List Kd} {l : List LV}, Ty ks l → l.length = ks.length
  | [], [], _ => rfl
  | _ :: ks, _ :: l, h => by simp [Ty.length h.2]
theorem app_lam {R : Type} (bad : R) : ∀ (ks : List Kd) (g : List LV → R) (l : List LV), app bad ks (lam ks g) l = bad ∨ ∃ l', app bad ks (lam ks g) l = g l' ∧ l'.map LV.toV = l.map LV.toV ∧ Ty ks l'
  | [], g, [] => .inr ⟨[], rfl, rfl, trivial⟩
  | [], g, x :: l => .inl rfl
  | k :: ks, g, [] => .inl rfl
  | k :: ks, g, x :: l => by
    simp only [app, lam]
    cases hx : x.as k with
    | none => exact .inl rfl
    | some d =>
      rcases app_lam bad ks (fun l => g (LV.mk k d :: l)) l with h | ⟨l', h1, h2, h3⟩
      · exact .inl h
      · exact .inr ⟨LV.mk k d :: l', h1, by simp [h2, LV.as_toV hx], ⟨d, rfl⟩, h3⟩
theorem app_noW {ks : List Kd} {g : List LV → World → Prop} {l : List LV} {w : World} (h : app noW ks (lam ks g) l w) : ∃ l', g l' w ∧ l'.map LV.toV = l.map LV.toV ∧ Ty ks l' := by
  rcases app_lam noW ks g l with e | ⟨l', e, h2, h3⟩
  · rw [e] at h; exact h.elim
  · rw [e] at h; exact ⟨l', h, h2, h3⟩
theorem map_eq_cons' {l' : List LV} {x : LV} {l : List LV} (h : l'.map LV.toV = (x :: l).map LV.toV) : ∃ x' l'', l' = x' :: l'' ∧ x'.toV = x.toV ∧ l''.map LV.toV = l.map LV.toV := by
  cases l' with
  | nil => simp at h
  | cons x' l'' => simp at h; exact ⟨x', l'', rfl, h.1, h.2⟩
theorem mkAVs_congr : ∀ (ss : List Sh) (l l' : List LV), l'.map LV.toV = l.map LV.toV → (mkAVs ss l').map AV.toV = (mkAVs ss l).map AV.toV
  | [], _, _, _ => rfl
  | .leaf k :: ss, [], l', h => by simp at h; subst h; rfl
  | .leaf k :: ss, x :: l, l', h => by
    obtain ⟨x', l'', rfl, h1, h2⟩ := map_eq_cons' h
    simp [mkAVs, AV.toV, h1, mkAVs_congr ss l l'' h2]
  | .agg ks :: ss, l, l', h => by
    simp only [mkAVs, List.map_cons, AV.toV]
    rw [mkAVs_congr ss (l.drop ks.length) (l'.drop ks.length) (by rw [List.map_drop, List.map_drop, h]), List.map_take, List.map_take, h]
theorem RT.mk_congr (rt : RT) {l l' : List LV} (h : l'.map LV.toV = l.map LV.toV) : (rt.mk l').toV = (rt.mk l).toV := by
  cases rt with
  | one s =>
    cases s with
    | leaf k =>
      cases l with
      | nil => simp at h; subst h; rfl
      | cons x l => obtain ⟨x', l'', rfl, h1, _⟩ := map_eq_cons' h; simp [RT.mk, TV.toV, AV.toV, h1]
    | agg ks => simp [RT.mk, TV.toV, AV.toV, h]
  | tup ss => simp [RT.mk, TV.toV, mkAVs_congr ss l l' h]

/-! ### rows of cells -/
theorem loadRow (w : World) (b o : Nat) : ∀ (n i : Nat) (c : List Value) (av : Array Value), c.length = n → (∀ j, j < n → w.cell? ⟨b, o + (i + j), none⟩ = c[j]?) →
    (loadCellsFrom ⟨b, o, none⟩ i n av).run P w = .ok (av ++ c.toArray) w
  | 0, i, c, av, hc, _ => by cases c with
    | nil => simp [loadCellsFrom]
    | cons => simp at hc
  | n + 1, i, c, av, hc, h => by
    cases c with
    | nil => simp at hc
    | cons x c =>
      have h0 := h 0 (by omega)
      simp only [Nat.add_zero, List.getElem?_cons_zero] at h0
      simp only [loadCellsFrom]
      have ih := loadRow w b o n (i + 1) c (av.push x) (by simpa using hc) (fun j hj => by
        have := h (j + 1) (by omega)
        rw [List.getElem?_cons_succ] at this
        rw [← this]; congr 2; omega)
      simp [Addr.add_none, h0, ih]
theorem firstRow {w : World} {s : Sl} {len cap sz n : Nat} {c : List Value} (h : rdCells w s (n * sz) c) : (Builtin.firstCells sz n (.slice (slA s.cap s.p) len cap)).run P w = .ok c.toArray w := by
  obtain ⟨hc, h⟩ := h
  by_cases h0 : n * sz = 0
  · have hcn : c = [] := List.eq_nil_of_length_eq_zero (by omega)
    subst hcn
    cases slA s.cap s.p with
    | none => simp [Builtin.firstCells]
    | some a => simp [Builtin.firstCells, loadCells, h0, loadCellsFrom]
  have hcp : s.cap ≠ 0 := by
    rcases h with h | ⟨_, _, _, h, _⟩
    · omega
    · exact h
  rw [slA_pos hcp]
  have h : n * sz = 0 ∨ ∃ b o, s.p = some (b, o) ∧ ∀ i, i < n * sz → w.cell? ⟨b, o + i, none⟩ = c[i]? := by
    rcases h with h | ⟨b, o, h1, _, h2⟩
    · exact .inl h
    · exact .inr ⟨b, o, h1, h2⟩
  generalize s.p = p at h ⊢
  cases p with
  | none =>
    rcases h with h | ⟨b, o, hp, _⟩
    · have : c = [] := List.eq_nil_of_length_eq_zero (by omega)
      subst this; simp [Builtin.firstCells, paV]
    · cases hp
  | some q =>
    obtain ⟨b, o⟩ := q
    have key : ∀ j, j < n * sz → w.cell? ⟨b, o + (0 + j), none⟩ = c[j]? := fun j hj => by
      rcases h with h | ⟨b', o', hp, hcell⟩
      · omega
      · cases hp; rw [Nat.zero_add]; exact hcell j hj
    simp [Builtin.firstCells, paV, loadCells, loadRow w b o (n * sz) 0 c #[] hc key]

theorem storeRow : ∀ (vs : List Value) (w : World) (b o i : Nat), (∀ v ∈ vs, isCell v = true) → okCells w b (o + i) vs.length →
    (storeCells ⟨b, o, none⟩ vs i).run P w = .ok () (World.setCells w b (o + i) vs)
  | [], w, b, o, i, _, _ => by simp [storeCells, World.setCells]
  | v :: vs, w, b, o, i, hv, hok => by
    obtain ⟨⟨u, hu⟩, hfr⟩ := hok 0 (by simp)
    simp only [Nat.add_zero] at hu hfr
    have h1 : v.oneCell' = true := by have := hv v (by simp); cases v <;> simp_all [isCell, Value.oneCell']
    have hs : (store ⟨b, o + i, none⟩ v).run P w = .ok () (w.setCell ⟨b, o + i, none⟩ v) := by simp [run_store P w _ v _ h1, hu, hfr]
    have ih := storeRow vs (w.setCell ⟨b, o + i, none⟩ v) b o (i + 1) (fun x hx => hv x (by simp [hx])) (fun j hj => by
      obtain ⟨⟨u', hu'⟩, hfr'⟩ := hok (j + 1) (by simp; omega)
      rw [show o + (i + 1) + j = o + i + (j + 1) by omega]
      refine ⟨?_, by rw [World.frozen?_setCell]; exact hfr'⟩
      exact ⟨u', by rw [World.cell?_setCell_other _ _ _ _ (by intro e; injection e with _ e2; omega)]; exact hu'⟩)
    simp only [storeCells, Addr.add_none]
    simp [hs, ih, World.setCells, Nat.add_assoc]

theorem range_flat (z : Array Value) : ∀ n : Nat, (List.range (n * z.size)).map (fun i => z[i % z.size]!) = (List.replicate n z.toList).flatten
  | 0 => by simp
  | n + 1 => by
    rw [show (n + 1) * z.size = z.size + n * z.size by rw [Nat.succ_mul, Nat.add_comm], List.range_add, List.map_append, List.replicate_succ, List.flatten_cons]
    congr 1
    · apply List.ext_getElem
      · simp
      · intro i h1 h2
        have h3 : i < z.size := by simpa using h1
        simp [Nat.mod_eq_of_lt h3, getElem!_pos, h3]
    · rw [List.map_map, ← range_flat z n]
      apply List.map_congr_left
      intro i _
      simp [Function.comp]
theorem zero_flat (z : Array Value) (n : Nat) : (Array.range (n * z.size)).map (fun i => z[i % z.size]!) = ((List.replicate n z.toList).flatten).toArray := by
  apply Array.ext'
  simp [← range_flat z n]

/-! ### one operation under the fence -/
theorem wpIn_value {r : Option Nat} {o : Oper} {a : Act} {w w' : World} {v : Value} {next : Act → World → Prop} {Q : Exit → Act → World → Prop} (hd : ∀ c, o.op ≠ .defer c)
    (h : (execOp a.eval o).run P w = .ok (.value v) w') (hn : next (a.put o.dst v) w') : o.wpIn (FW r) 0 P a w next Q := by
  refine ⟨fun _ _ => trivial, ?_⟩
  rw [Oper.semAt_eq _ _ _ hd, h]
  exact hn
theorem wpIn_skipv {r : Option Nat} {o : Oper} {a : Act} {w w' : World} {next : Act → World → Prop} {Q : Exit → Act → World → Prop} (hd : ∀ c, o.op ≠ .defer c)
    (h : (execOp a.eval o).run P w = .ok .skip w') (hn : next (a.put o.dst undef) w') : o.wpIn (FW r) 0 P a w next Q := by
  refine ⟨fun _ _ => trivial, ?_⟩
  rw [Oper.semAt_eq _ _ _ hd, h]
  exact hn
theorem wpIn_enter {r : Option Nat} {o : Oper} {a : Act} {w w' : World} {f : FuncId} {args : Array Value} {next : Act → World → Prop} {Q : Exit → Act → World → Prop} {R : Ending → World → Prop} (hd : ∀ c, o.op ≠ .defer c)
    (h : (execOp a.eval o).run P w = .ok (.enter f args) w') (hc : Calls P f args w' R) (hR : ∀ e w'', R e w'' → ∃ v, e = .returned v ∧ next (a.put o.dst v) w'') : o.wpIn (FW r) 0 P a w next Q := by
  refine ⟨fun _ _ => trivial, ?_⟩
  rw [Oper.semAt_eq _ _ _ hd, h]
  refine ⟨(fun h => by cases h), (calls_in (hc.mono fun e w'' he => ?_))⟩
  obtain ⟨v, rfl, hv⟩ := hR e w'' he
  exact hv
theorem wpIn_round {r : Option Nat} {o : Oper} {a : Act} {w w' : World} {l f : Nat} {tmps : Array Value} {assign body : Code} {next : Act → World → Prop} {Q : Exit → Act → World → Prop} {R : Ending → World → Prop} (hd : ∀ c, o.op ≠ .defer c)
    (h : (execOp a.eval o).run P w = .ok (.round l f tmps assign body) w') (hc : RoundIn Fence.wide 0 P l f tmps assign body w' R) (hR : ∀ e w'', R e w'' → ∃ v, e = .returned v ∧ next (a.put o.dst v) w'') : o.wpIn (FW r) 0 P a w next Q := by
  refine ⟨fun _ _ => trivial, ?_⟩
  rw [Oper.semAt_eq _ _ _ hd, h]
  refine ⟨(fun h => by cases h), (round_in (hc.mono fun e w'' he => ?_))⟩
  obtain ⟨v, rfl, hv⟩ := hR e w'' he
  exact hv

def callable (P : Program) (f : FuncId) : Bool := (P.funcs[f]?).any fun fn => fn.body.isSome && !(fn.name == "runtime.NumGoroutine")
theorem run_callFunc {f : FuncId} (h : callable P f = true) (args : Array Value) (w : World) : (callFunc f args).run P w = .ok (.enter f args) w := by
  unfold callable at h
  cases hf : P.funcs[f]? with
  | none => simp [hf] at h
  | some fn =>
    simp only [hf, Option.any_some, Bool.and_eq_true, Bool.not_eq_true'] at h
    have h2 : fn.body.isNone = false := by cases hb : fn.body <;> simp [hb] at h ⊢
    unfold callFunc
    simp only [Sem.run_bind, run_program, Result.andThen_ok, hf, h.2, h2, Bool.false_eq_true, if_false, Sem.run_pure]
theorem i64_small {c : Int} (h0 : 0 ≤ c) (h : c < 2 ^ 48) : IntKind.i64.wrap c = c := IntWalk.i64_in _ ⟨by omega, by omega⟩
end Go.Vw
