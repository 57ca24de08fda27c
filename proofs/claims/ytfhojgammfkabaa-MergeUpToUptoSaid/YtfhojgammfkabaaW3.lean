/- The typed reading is sound, second part: the other operations that leave the world alone; loads. -/
import Derived.Test.YtfhojgammfkabaaW2
import Derived.Laws.Tables
namespace Go.Vw
variable {P : Program}

theorem execOp_call {ρ : Operand → Value} {dst : Option Tmp} {c : Call} {ty : TypeId} {pos : String} {after : Array Edge} {g : Option (Nat × Bool)} {b : Builtin} (hc : c.callee = .builtin b) (w : World) :
    (execOp ρ ⟨dst, .call c, ty, pos, after, g⟩).run P w = (builtin b c.argTypes ty (c.args.map fun | .const _ => true | _ => false) (c.args.map ρ)).run P w := by
  simp only [execOp, resolve, hc]
  simp [invoke]
  rfl

theorem foldI_sound (f : Int → Int → Int) (g : Value → Value → Sem Value) (k : IntKind) (hg : ∀ x y w, (g (.int k x) (.int k y)).run P w = .ok (.int k (f x y)) w) :
    ∀ (l : List AV) (x r : Int), foldI f k x l = some r → ∀ w, ((l.map AV.toV).foldlM g (.int k x)).run P w = .ok (.int k r) w
  | [], x, r, h, w => by simp [foldI] at h; subst h; simp
  | .leaf (.int j y) :: l, x, r, h, w => by
    simp only [foldI] at h
    split at h
    · rename_i hk; subst hk
      simp only [List.map_cons, List.foldlM_cons, AV.toV, LV.toV]
      simp [hg, foldI_sound f g k hg l _ _ h w]
    · cases h
  | .leaf (.bool _) :: _, _, _, h, _ => by simp [foldI] at h
  | .leaf (.lit _) :: _, _, _, h, _ => by simp [foldI] at h
  | .leaf (.str _) :: _, _, _, h, _ => by simp [foldI] at h
  | .leaf (.ptr _) :: _, _, _, h, _ => by simp [foldI] at h
  | .leaf (.sl _) :: _, _, _, h, _ => by simp [foldI] at h
  | .leaf (.map _) :: _, _, _, h, _ => by simp [foldI] at h
  | .leaf (.val _) :: _, _, _, h, _ => by simp [foldI] at h
  | .leaf (.marks _) :: _, _, _, h, _ => by simp [foldI] at h
  | .agg _ :: _, _, _, h, _ => by simp [foldI] at h

theorem built0_sound {b : Builtin} {ts : Array TypeId} {ty : TypeId} {cs : Array Bool} {args : List AV} {t : TV} (h : built0 P b ts.toList args = some t) (w : World) :
    (builtin b ts ty cs (args.map AV.toV).toArray).run P w = .ok (.value t.toV) w := by
  unfold built0 at h
  split at h
  · rename_i t0 s hts
    split at h
    · rename_i el hu; cases h
      have h0 : ts[0]? = some t0 := by rw [← Array.getElem?_toList, hts]; rfl
      simp [builtin, Builtin.len_, h0, AV.toV, LV.toV, run_underlying hu, intL, TV.toV, goInt]
    · cases h
  · rename_i t0 l hts
    split at h
    · rename_i hu; cases h
      have h0 : ts[0]? = some t0 := by rw [← Array.getElem?_toList, hts]; rfl
      simp [builtin, Builtin.len_, h0, AV.toV, LV.toV, run_underlying hu, intL, TV.toV, goInt, ba_len]
    · cases h
  · rename_i t0 s hts
    split at h
    · rename_i el hu; cases h
      have h0 : ts[0]? = some t0 := by rw [← Array.getElem?_toList, hts]; rfl
      simp [builtin, Builtin.cap_, h0, AV.toV, LV.toV, run_underlying hu, intL, TV.toV, goInt]
    · cases h
  · rename_i k x r
    obtain ⟨v, hv, rfl⟩ := Option.map_eq_some_iff.1 h
    have := foldI_sound (P := P) mxI Builtin.max2 k (fun x y w => by simp [Builtin.max2, mxI]) r x v hv w
    simp only [builtin, Builtin.max_, List.map_cons, AV.toV, LV.toV]
    simp [this, intL, TV.toV, AV.toV, LV.toV]
  · rename_i k x r
    obtain ⟨v, hv, rfl⟩ := Option.map_eq_some_iff.1 h
    have := foldI_sound (P := P) mnI Builtin.min2 k (fun x y w => by simp [Builtin.min2, mnI]) r x v hv w
    simp only [builtin, Builtin.min_, List.map_cons, AV.toV, LV.toV]
    simp [this, intL, TV.toV, AV.toV, LV.toV]
  · cases h

/-! ### types -/
theorem run_sizeOf {t : TypeId} {n : Nat} (h : szT P t = some n) (w : World) : (sizeOf t).run P w = .ok n w := by
  obtain ⟨i, hi, rfl⟩ := Option.map_eq_some_iff.1 h
  simp [sizeOf, typeInfo, hi]
theorem run_isAgg {t : TypeId} {d : TypeDesc} (h : P.underlying t = some d) (w : World) : (isAgg t).run P w = .ok (isAggD d) w := by
  cases d <;> simp [isAgg, run_underlying h, isAggD]
theorem shT_leaf {t : TypeId} {k : Kd} (h : shT P t = some (.leaf k)) : ∃ d, P.underlying t = some d ∧ isAggD d = false := by
  unfold shT at h
  split at h
  · rename_i d hd
    split at h
    · split at h
      · split at h <;> cases h
      · cases h
    · rename_i hn; exact ⟨d, hd, by simpa using hn⟩
  · cases h
theorem shT_agg {t : TypeId} {ks : List Kd} (h : shT P t = some (.agg ks)) : ∃ d, P.underlying t = some d ∧ isAggD d = true ∧ szT P t = some ks.length := by
  unfold shT at h
  split at h
  · rename_i d hd
    split at h
    · rename_i ha
      split at h
      · rename_i ks' n hk hn
        split at h
        · rename_i he; cases h; exact ⟨d, hd, ha, by rw [hn, he]⟩
        · cases h
      · cases h
    · obtain ⟨k, _, hk⟩ := Option.map_eq_some_iff.1 h; cases hk
  · cases h
theorem fieldT_spec {s : TypeId} {f : Nat} {fd : Field} (h : fieldT P s f = some fd) : ∃ fs, P.underlying s = some (.struct fs) ∧ fs[f]? = some fd := by
  unfold fieldT at h
  split at h
  · rename_i fs hu
    rw [nth_getElem?] at h
    exact ⟨fs, hu, by rw [← Array.getElem?_toList]; exact h⟩
  · cases h

/-! ### struct literals -/
theorem leaves_cells (v : AV) (h : ∀ x ∈ valsOf v.leaves, isCell x = true) : v.toV.cells = (v.leaves.map LV.toV).toArray := by
  cases v with
  | agg l => rfl
  | leaf x =>
    cases x with
    | val v =>
      have := h v (by simp [AV.leaves, valsOf])
      cases v <;> simp [isCell] at this <;> rfl
    | _ => rfl
theorem zipIdx_foldl_set' (off : Nat) : ∀ (cs : List Value) (j : Nat) (z : Array Value), off + j + cs.length ≤ z.size →
    ((cs.zipIdx j).foldl (fun cs (x : Value × Nat) => cs.setIfInBounds (off + x.2) x.1) z).toList = z.toList.take (off + j) ++ cs ++ z.toList.drop (off + j + cs.length)
  | [], j, z, _ => by simp
  | c :: cs, j, z, h => by
    simp only [List.length_cons] at h
    have ih := zipIdx_foldl_set' off cs (j + 1) (z.setIfInBounds (off + j) c) (by simp; omega)
    rw [List.zipIdx_cons, List.foldl_cons, ih]
    have hlt : off + j < z.toList.length := by simp; omega
    have h1 : (z.toList.set (off + j) c).take (off + (j + 1)) = z.toList.take (off + j) ++ [c] := by
      rw [show off + (j + 1) = off + j + 1 by omega, List.take_add_one, List.take_set_of_le (by omega), List.getElem?_set_self hlt]
      rfl
    have h2 : (z.toList.set (off + j) c).drop (off + (j + 1) + cs.length) = z.toList.drop (off + j + (cs.length + 1)) := by
      rw [List.drop_set_of_lt (by omega)]
      congr 1; omega
    simp only [Array.toList_setIfInBounds, h1, h2, List.length_cons]
    simp
theorem zipIdx_foldl_set (off : Nat) (cs : List Value) (z : Array Value) (h : off + cs.length ≤ z.size) :
    (cs.toArray.zipIdx.foldl (fun cs (x : Value × Nat) => cs.setIfInBounds (off + x.2) x.1) z).toList = z.toList.take off ++ cs ++ z.toList.drop (off + cs.length) := by
  have := zipIdx_foldl_set' off cs 0 z (by simpa using h)
  rw [← Array.foldl_toList, Array.toList_zipIdx]
  simpa using this
theorem valsOf_append (a b : List LV) : valsOf (a ++ b) = valsOf a ++ valsOf b := by
  induction a with
  | nil => rfl
  | cons x a ih => cases x <;> simp [valsOf, ih]
theorem layAll_fill {e : Env} {a : Act} (hs : Sim e a) (g : Nat → Option (Nat × Nat)) : ∀ (parts : List (Nat × Operand)) (z r : List LV), layAll g e z parts = some r →
    (∀ x ∈ valsOf (partLeaves e parts), isCell x = true) →
    Instr.fill g (z.map LV.toV).toArray (parts.map fun (i, x) => (i, a.eval x)) = some (r.map LV.toV).toArray
  | [], z, r, h, _ => by simp [layAll] at h; subst h; rfl
  | (i, x) :: rest, z, r, h, hv => by
    simp only [layAll] at h
    split at h
    · rename_i off n v hg hx
      split at h
      · rename_i hn
        split at h
        · rename_i hle
          have hpl : partLeaves e ((i, x) :: rest) = v.leaves ++ partLeaves e rest := by simp [partLeaves, hx]
          rw [hpl, valsOf_append] at hv
          have hc := leaves_cells v fun y hy => hv y (List.mem_append_left _ hy)
          have ih := layAll_fill hs g rest _ r h fun y hy => hv y (List.mem_append_right _ hy)
          simp only [List.map_cons, Instr.fill, hg, rdA_sound hs hx, hc]
          have hsz : ((v.leaves.map LV.toV).toArray).size = n := by simp [hn]
          rw [if_neg (by simp [hn]; omega)]
          rw [← ih]
          congr 1
          apply Array.ext'
          have := zipIdx_foldl_set off (v.leaves.map LV.toV) (z.map LV.toV).toArray (by simp [hn]; omega)
          rw [this]
          simp [lay]
        · cases h
      · cases h
    · cases h
theorem zeroT_spec {t : TypeId} {z : List LV} (h : zeroT P t = some z) : ∃ i v, P.info? t = some i ∧ i.zero = some v ∧ v.cells = (z.map LV.toV).toArray := by
  obtain ⟨v, hv, rfl⟩ := Option.map_eq_some_iff.1 h
  obtain ⟨i, hi, hz⟩ := Option.bind_eq_some_iff.1 hv
  refine ⟨i, v, hi, hz, ?_⟩
  apply Array.ext'
  rw [List.map_map]
  exact ((List.map_congr_left fun x _ => ofLV_toV x).trans (List.map_id _)).symm
theorem buildW_sound {e : Env} {a : Act} (hs : Sim e a) {t : TypeId} {parts : Array (Nat × Operand)} {l : List LV} (h : buildW P e t parts.toList = some l)
    (hv : ∀ x ∈ valsOf (partLeaves e parts.toList), isCell x = true) (w : World) : (Instr.build t (parts.map fun (i, x) => (i, a.eval x))).run P w = .ok (.agg (l.map LV.toV).toArray) w := by
  unfold buildW at h
  split at h
  · rename_i fs z hu hz
    split at h
    · rename_i pl hpl
      obtain ⟨i, v, hi, hzv, hcells⟩ := zeroT_spec hz
      refine run_build w t _ _ ?_
      unfold Program.built
      have hpl' : fs.toList.mapM (fun f => (P.info? f.type).map fun i => (f.offset, i.size)) = some pl := hpl
      simp only [hi, hu, hzv, hpl', hcells]
      have := layAll_fill hs (nth pl) parts.toList z l h hv
      rw [← this]
      congr 1
      · funext n; simp [nth_getElem?]
      · simp
    · cases h
  · cases h

theorem okVals_iff {l : List LV} {A : Prop} : okVals l A ↔ (∀ x ∈ valsOf l, isCell x = true) ∧ A := by
  unfold okVals
  cases h : valsOf l with
  | nil => simp
  | cons v vs => simp

theorem vok {ρ : Operand → Value} {o : Oper} {s : Sem Value} {t : Value} {w w' : World} (he : execOp ρ o = (do pure (.value (← s)))) (h : s.run P w = .ok t w') : (execOp ρ o).run P w = .ok (.value t) w' := by
  rw [he]; simp [h]

theorem pu0_sound {e : Env} {a : Act} (hs : Sim e a) {o : Oper} {t : TV} (h : pu0 P e o.op = some t) : Pur P a.eval o t := by
  intro w
  obtain ⟨dst, op, ty, pos, after, guard⟩ := o
  simp only at h
  cases op with
  | move x => simp only [pu0] at h; simp [execOp, rd_sound hs h]
  | assign x => simp only [pu0] at h; simp [execOp, rd_sound hs h]
  | pick c x y =>
    simp only [pu0] at h
    split at h
    · rename_i hc; simp [execOp, rdL_sound hs hc, LV.toV, asBool, rd_sound hs h]
    · rename_i hc; simp [execOp, rdL_sound hs hc, LV.toV, asBool, rd_sound hs h]
    · rename_i b hc
      split at h
      · rename_i x' y' hx hy
        split at h
        · rename_i p q hp hq; cases h
          have e1 : x'.toV = .bool p := (LV.as_toV hp).symm
          have e2 : y'.toV = .bool q := (LV.as_toV hq).symm
          simp only [execOp, rdL_sound hs hc, rdL_sound hs hx, rdL_sound hs hy, e1, e2]
          cases b <;> simp [asBool, boolL, TV.toV, AV.toV, LV.toV]
        · cases h
      · cases h
    · cases h
  | binOp op t' x y yt =>
    simp only [pu0] at h
    exact vok rfl (bin0_sound hs h w)
  | unOp u t' x =>
    cases u with
    | not =>
      simp only [pu0] at h
      split at h
      · rename_i b hx; cases h; simp [execOp, rdL_sound hs hx, LV.toV, Op.unary, boolL, TV.toV, AV.toV]
      · rename_i b hx; cases h; simp [execOp, rdL_sound hs hx, LV.toV, Op.unary, TV.toV, AV.toV]
      · cases h
    | neg =>
      simp only [pu0] at h
      split at h
      · rename_i k n hx; cases h; simp [execOp, rdL_sound hs hx, LV.toV, Op.unary, Op.intArith, intL, TV.toV, AV.toV]
      · cases h
    | xor =>
      simp only [pu0] at h
      split at h
      · rename_i k n hx; cases h; simp [execOp, rdL_sound hs hx, LV.toV, Op.unary, Op.intBits, intL, TV.toV, AV.toV, bitI]
      · cases h
    | _ => simp [pu0] at h
  | call c =>
    obtain ⟨callee, args, ts⟩ := c
    cases callee with
    | builtin b =>
      simp only [pu0] at h
      split at h
      · rename_i l hl
        rw [execOp_call rfl]
        simp only [rdAs_array hs hl]
        exact built0_sound h w
      · cases h
    | _ => simp [pu0] at h
  | fieldAddr s x f =>
    simp only [pu0] at h
    split at h
    · rename_i b o' fd hx hf
      split at h
      · rename_i n hn; cases h
        obtain ⟨fs, hu, hfd⟩ := fieldT_spec hf
        refine vok rfl ?_
        simp [Instr.fieldAt, run_underlying hu, hfd, rdL_sound hs hx, LV.toV, paV, Instr.sureAddr, fieldPlace, run_sizeOf hn, Addr.add_none, TV.toV, AV.toV, addO_eq]
      · cases h
    · cases h
  | field s x f =>
    simp only [pu0] at h
    split at h
    · rename_i l fd hx hf
      obtain ⟨fs, hu, hfd⟩ := fieldT_spec hf
      split at h
      · rename_i k hk
        obtain ⟨y, hy, rfl⟩ := Option.map_eq_some_iff.1 h
        obtain ⟨d, hd, ha⟩ := shT_leaf hk
        rw [nth_getElem?] at hy
        refine vok rfl ?_
        simp [Instr.field, run_underlying hu, hfd, rdA_sound hs hx, AV.toV, asAgg, part, run_isAgg hd, ha, hy, TV.toV]
      · rename_i ks hk
        split at h
        · rename_i hle; cases h
          obtain ⟨d, hd, ha, hz⟩ := shT_agg hk
          refine vok rfl ?_
          simp [Instr.field, run_underlying hu, hfd, rdA_sound hs hx, AV.toV, asAgg, part, run_isAgg hd, ha, run_sizeOf hz, TV.toV, List.map_take, List.map_drop, List.take_drop]
        · cases h
      · cases h
    · cases h
  | extract x i =>
    simp only [pu0] at h
    split at h
    · rename_i l hx
      obtain ⟨y, hy, rfl⟩ := Option.map_eq_some_iff.1 h
      rw [nth_getElem?] at hy
      refine vok rfl ?_
      simp [Instr.extract, rd_sound hs hx, TV.toV, hy]
    · cases h
  | makeFunc fn x c =>
    simp only [pu0] at h
    split at h
    · rename_i x' c' hx hc; cases h
      refine vok rfl ?_
      simp only [Instr.makeFunc, rdAs_array hs hx, rdAs_array hs hc]; rfl
    · cases h
  | convert s d x =>
    simp only [pu0] at h
    split at h
    · rename_i k k' j n hu hd hx; cases h
      refine vok rfl ?_
      simp [convert, run_underlying hu, run_underlying hd, rdL_sound hs hx, LV.toV, Conv.intToInt, intL, TV.toV, AV.toV]
    · rename_i l hu hd hx; cases h
      refine vok rfl ?_
      simp [convert, run_underlying hu, run_underlying hd, rdL_sound hs hx, LV.toV, TV.toV, AV.toV]
    · cases h
  | build t' parts =>
    simp only [pu0] at h
    split at h
    · rename_i hv
      obtain ⟨l, hl, rfl⟩ := Option.map_eq_some_iff.1 h
      exact vok rfl (buildW_sound hs hl (by rw [hv]; simp) w)
    · cases h
  | _ => simp [pu0] at h
end Go.Vw
