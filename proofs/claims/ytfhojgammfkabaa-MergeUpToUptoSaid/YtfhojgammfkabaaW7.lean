/- The typed reading is sound, sixth part: regions, those whose order is open among them. -/
import Derived.Test.YtfhojgammfkabaaW6
import Derived.TacticsIn
import Derived.OrdersHeld
namespace Go.Vw
variable {P : Program}

/-- what a piece of code may have turned: its own temporaries; marks, if it ranges over functions; deferred calls, if it defers -/
structure Stp (ds : List Nat) (rng dfr : Bool) (e e' : Env) (a a' : Act) : Prop where
  tmps : ∀ t, t ∉ ds → a'.tmps[t]? = a.tmps[t]?
  calls : dfr = false → e'.calls = e.calls
  marks : rng = false → e'.marks = e.marks
  n : e'.n = e.n
theorem Stp.refl (ds : List Nat) (r d : Bool) (e : Env) (a : Act) : Stp ds r d e e a a := ⟨fun _ _ => rfl, fun _ => rfl, fun _ => rfl, rfl⟩
theorem Stp.trans {ds1 ds2 ds : List Nat} {r1 r2 r q1 q2 q : Bool} {e e1 e2 : Env} {a a1 a2 : Act} (h1 : Stp ds1 r1 q1 e e1 a a1) (h2 : Stp ds2 r2 q2 e1 e2 a1 a2)
    (d1 : ∀ t, t ∈ ds1 → t ∈ ds) (d2 : ∀ t, t ∈ ds2 → t ∈ ds) (hr : r = false → r1 = false ∧ r2 = false) (hq : q = false → q1 = false ∧ q2 = false) : Stp ds r q e e2 a a2 :=
  ⟨fun t ht => (h2.tmps t fun h => ht (d2 t h)).trans (h1.tmps t fun h => ht (d1 t h)), fun h => (h2.calls (hq h).2).trans (h1.calls (hq h).1), fun h => (h2.marks (hr h).2).trans (h1.marks (hr h).1), h2.n.trans h1.n⟩
theorem Stp.weaken {ds1 ds : List Nat} {r1 r q1 q : Bool} {e e1 : Env} {a a1 : Act} (h1 : Stp ds1 r1 q1 e e1 a a1) (d1 : ∀ t, t ∈ ds1 → t ∈ ds) (hr : r = false → r1 = false) (hq : q = false → q1 = false) : Stp ds r q e e1 a a1 :=
  ⟨fun t ht => h1.tmps t fun h => ht (d1 t h), fun h => h1.calls (hq h), fun h => h1.marks (hr h), h1.n⟩
theorem stp_eset (e : Env) (d : Nat) (t : TV) (a : Act) (ds : List Nat) (r q : Bool) : Stp ds r q e (eset e d t) a a := ⟨fun _ _ => rfl, fun _ => rfl, fun _ => rfl, rfl⟩
theorem stp_put {e : Env} {a : Act} {d : Option Tmp} {t : TV} {v : Value} {ds : List Nat} {r q : Bool} (hd : ∀ x, d = some x → x ∈ ds) : Stp ds r q e (put e d t) a (a.put d v) := by
  cases d with
  | none => exact Stp.refl _ _ _ _ _
  | some x =>
    refine ⟨fun m hm => ?_, fun _ => rfl, fun _ => rfl, rfl⟩
    have : x ≠ m := fun h => hm (h ▸ hd x rfl)
    simp [Act.put, Array.getElem?_setIfInBounds, this]
theorem stp_putO {e : Env} {a : Act} {d : Option Tmp} {v : Value} {ds : List Nat} {r q : Bool} (hd : ∀ x, d = some x → x ∈ ds) : Stp ds r q e (esetO e d) a (a.put d v) := by
  cases d with
  | none => exact Stp.refl _ _ _ _ _
  | some x =>
    refine ⟨fun m hm => ?_, fun _ => rfl, fun _ => rfl, rfl⟩
    have : x ≠ m := fun h => hm (h ▸ hd x rfl)
    simp [Act.put, Array.getElem?_setIfInBounds, this]

theorem ld_sound (w : World) : ∀ kd b o K, ld w kd b o K → ∃ x : Den kd, (∀ u, u = w → u.cell? ⟨b, o, none⟩ = some (LV.mk kd x).toV) ∧ K x :=
  fun _ _ _ _ ⟨x, hx, hk⟩ => ⟨x, fun u hu => hu ▸ hx, hk⟩
theorem pu_ndef {e : Env} {o : Oper} {t : TV} (h : pu0 P e o.op = some t) : ∀ c, o.op ≠ .defer c := by
  intro c hc; rw [hc] at h; simp [pu0] at h
theorem stepW_sound {cs : List Nat} (hcs : ∀ f, cs.contains f = true → callable P f = true) {e : Env} {a : Act} (hs : Sim e a) {r : Option Nat} {o : Oper} {w : World} {k : TV → World → Prop} (h : stepW P cs e o w k)
    {next : Act → World → Prop} {Q : Exit → Act → World → Prop} (hn : ∀ t w', k t w' → next (a.put o.dst t.toV) w') : o.wpIn (FW r) 0 P a w next Q := by
  unfold stepW at h
  split at h
  · rename_i t ht
    exact wpIn_value (pu_ndef ht) (pu0_sound hs ht w) (hn _ _ h)
  · split at h
    · rename_i p hp
      obtain ⟨t, hk, hr⟩ := pu1_sound hs hp h
      exact wpIn_value (fun c hc => by rw [hc] at hp; simp [pu1] at hp) (hr w) (hn _ _ hk)
    · split at h
      · rename_i p hp
        obtain ⟨t, hk, hr⟩ := lo1_sound hs (fun u => u = w) (ld_sound w) hp h
        exact wpIn_value (fun c hc => by rw [hc] at hp; simp [lo1] at hp) (hr w rfl) (hn _ _ hk)
      · split at h
        · rename_i p hp
          exact ef1_sound hcs hs hp h hn
        · exact h.elim

theorem wanted_none {o : Oper} (h : o.guard = none) (y : Nat → Option Bool) : Region.wanted o y = true := by simp [Region.wanted, h]
theorem yielded_of {ops : Array Oper} {e : Env} {a : Act} (hs : Sim e a) {j d : Nat} {t : TV} (hd : dstOf ops.toList j = some d) (ht : eget e d = some t) :
    yielded ops a.tmps j = match t.toV with | .bool b => some b | _ => none := by
  unfold dstOf at hd
  rw [nth_getElem?, Array.getElem?_toList] at hd
  unfold yielded
  rw [hd, Option.bind_some, hs.get d t ht]
  generalize t.toV = v
  cases v <;> rfl

def dfrO (l : List Oper) : Bool := l.any fun o => isDefer o.op
theorem dfrO_cons (o : Oper) (l : List Oper) : dfrO (o :: l) = (isDefer o.op || dfrO l) := rfl
theorem runOps_sound {cs : List Nat} (hcs : ∀ f, cs.contains f = true → callable P f = true) {ops : Array Oper} {Q : Exit → Act → World → Prop} {r : Option Nat} : ∀ (l : List Oper) (e : Env) (a : Act) (w : World) (k : Env → World → Prop),
    (r.isSome = true → dfrO l = false) → Sim e a → runOps P cs ops.toList l e w k → (∀ e' a' w', k e' w' → Sim e' a' → Stp (dstsO l) false (dfrO l) e e' a a' → Q .normal a' w') → wpListIn (FW r) 0 P ops Q l a w
  | [], e, a, w, k, _, hs, h, hQ => hQ e a w h hs (Stp.refl _ _ _ _ _)
  | o :: l, e, a, w, k, hro, hs, h, hQ => by
    have hdst : ∀ x, o.dst = some x → x ∈ dstsO (o :: l) := fun x hx => by simp [dstsO, hx]
    have hsub : ∀ t, t ∈ dstsO l → t ∈ dstsO (o :: l) := fun t ht => by
      unfold dstsO
      cases o.dst with
      | none => exact ht
      | some d => exact List.mem_cons_of_mem _ ht
    have hq : dfrO (o :: l) = false → isDefer o.op = false ∧ dfrO l = false := fun h => by
      rw [dfrO_cons] at h; exact Bool.or_eq_false_iff.1 h
    have hrl : r.isSome = true → dfrO l = false := fun h => (hq (hro h)).2
    -- carried out, passed over: from an environment that tells the same activation
    have run : ∀ e1, Sim e1 a → Stp [] false false e e1 a a → stepW P cs e1 o w (fun t w' => runOps P cs ops.toList l (put e1 o.dst t) w' k) → o.wpIn (FW r) 0 P a w (wpListIn (FW r) 0 P ops Q l) Q :=
      fun e1 h1 st hst => stepW_sound hcs h1 hst fun t w' hk => runOps_sound hcs l _ _ _ k hrl (h1.put o.dst t) hk fun e' a' w'' hk' hs' st' =>
        hQ e' a' w'' hk' hs' ((st.trans (stp_put (ds := dstsO (o :: l)) (r := false) (q := false) (t := t) hdst) (by simp) (fun _ h => h) (fun _ => ⟨rfl, rfl⟩) (q := false) (fun _ => ⟨rfl, rfl⟩)).trans st' (fun _ h => h) hsub (fun _ => ⟨rfl, rfl⟩) (fun h => ⟨rfl, (hq h).2⟩))
    have skip : ∀ e1, Sim e1 a → Stp [] false false e e1 a a → runOps P cs ops.toList l (esetO e1 o.dst) w k → wpListIn (FW r) 0 P ops Q l (a.put o.dst undef) w :=
      fun e1 h1 st hst => runOps_sound hcs l _ _ _ k hrl (h1.putO o.dst) hst fun e' a' w'' hk' hs' st' =>
        hQ e' a' w'' hk' hs' ((st.trans (stp_putO (ds := dstsO (o :: l)) (r := false) (q := false) hdst) (by simp) (fun _ h => h) (fun _ => ⟨rfl, rfl⟩) (q := false) (fun _ => ⟨rfl, rfl⟩)).trans st' (fun _ h => h) hsub (fun _ => ⟨rfl, rfl⟩) (fun h => ⟨rfl, (hq h).2⟩))
    unfold runOps at h
    unfold wpListIn
    split at h
    · rename_i hdef
      split at h
      · rename_i f args ts hg hop hmk
        split at h
        · rename_i avs hav
          split at h
          · rename_i hcf
            rw [if_pos (wanted_none hg _)]
            have hr0 : r = none := by
              cases r with
              | none => rfl
              | some x => have := (hq (hro rfl)).1; rw [hdef] at this; cases this
            subst hr0
            refine ⟨fun _ _ => trivial, ?_⟩
            rw [show (FW none).round = none from rfl, Oper.semAt_none]
            have hrun : (execOp a.eval o).run P w = .ok (.defer { target := .fn (.func f) #[], args := (avs.map AV.toV).toArray }) w := by
              obtain ⟨dst, op, ty, pos, af, gd⟩ := o
              simp only at hop
              subst hop
              have : a.eval (.func f) = .func (.func f) #[] #[] := rfl
              simp [execOp, resolve, Deferred.ofValue, this, rdAs_array hs hav]
            rw [hrun]
            refine runOps_sound hcs l _ _ _ k hrl ?_ h fun e' a' w'' hk' hs' st' => hQ e' a' w'' hk' hs' ?_
            · have hd : Sim ⟨e.t, e.n, (f, avs) :: e.calls, []⟩ { a with defers := { target := .fn (.func f) #[], args := (avs.map AV.toV).toArray } :: a.defers } :=
                ⟨hs.size, hs.get, by show _ :: a.defers = _; rw [hs.dfs]; simp [dfOf, hmk]⟩
              exact hd.putO o.dst
            · have st0 : Stp (dstsO (o :: l)) false true e (esetO ⟨e.t, e.n, (f, avs) :: e.calls, []⟩ o.dst) a (({ a with defers := { target := .fn (.func f) #[], args := (avs.map AV.toV).toArray } :: a.defers } : Act).put o.dst undef) := by
                cases hdd : o.dst with
                | none => exact ⟨fun _ _ => rfl, fun h => by simp at h, fun _ => hmk.symm, rfl⟩
                | some x =>
                  refine ⟨fun m hm => ?_, fun h => by simp at h, fun _ => hmk.symm, rfl⟩
                  have : x ≠ m := fun h => hm (h ▸ hdst x hdd)
                  simp [Act.put, Array.getElem?_setIfInBounds, this]
              exact st0.trans st' (fun _ h => h) hsub (fun _ => ⟨rfl, rfl⟩) (fun h => absurd (hq h).1 (by rw [hdef]; simp))
          · exact h.elim
        · exact h.elim
      · exact h.elim
    · split at h
      · rename_i hg
        rw [if_pos (wanted_none hg _)]
        exact run e hs (Stp.refl _ _ _ _ _) h
      · rename_i j want hg
        split at h
        · exact h.elim
        · rename_i d hd
          split at h
          · rename_i b hb
            have hy : yielded ops a.tmps j = some b := yielded_of hs hd hb
            split at h
            · rename_i hbw
              rw [if_pos (by simp [Region.wanted, hg, hy, (beq_iff_eq.1 hbw)])]
              exact run e hs (Stp.refl _ _ _ _ _) h
            · rename_i hbw
              rw [if_neg (by simp only [Region.wanted, hg, hy]; simpa using hbw)]
              exact ⟨fun _ _ => trivial, skip e hs (Stp.refl _ _ _ _ _) h⟩
          · rename_i hb
            have hy : yielded ops a.tmps j = none := yielded_of hs hd hb
            rw [if_neg (by simp [Region.wanted, hg, hy])]
            exact ⟨fun _ _ => trivial, skip e hs (Stp.refl _ _ _ _ _) h⟩
          · rename_i x hb
            have hy : yielded ops a.tmps j = some x := yielded_of hs hd hb
            obtain ⟨ht, hf⟩ := h
            cases x with
            | true =>
              have h1 : Sim (eset e d (.one (.leaf (.lit true)))) a := hs.retell hb rfl
              have := ht rfl
              cases want with
              | true =>
                rw [if_pos (by simp [Region.wanted, hg, hy])]
                exact run _ h1 (stp_eset _ _ _ _ _ _ _) (by simpa using this)
              | false =>
                rw [if_neg (by simp [Region.wanted, hg, hy])]
                exact ⟨fun _ _ => trivial, skip _ h1 (stp_eset _ _ _ _ _ _ _) (by simpa using this)⟩
            | false =>
              have h1 : Sim (eset e d (.one (.leaf (.lit false)))) a := hs.retell hb rfl
              have := hf rfl
              cases want with
              | true =>
                rw [if_neg (by simp [Region.wanted, hg, hy])]
                exact ⟨fun _ _ => trivial, skip _ h1 (stp_eset _ _ _ _ _ _ _) (by simpa using this)⟩
              | false =>
                rw [if_pos (by simp [Region.wanted, hg, hy])]
                exact run _ h1 (stp_eset _ _ _ _ _ _ _) (by simpa using this)
          · exact h.elim
end Go.Vw
