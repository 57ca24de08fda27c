/- Structs that are compared: all their cells, one by one. (names no type of a program) -/
import Derived.Test.YtjefbjfifjjpmafGreatDoorLB
import Derived.Laws.StructEq
namespace Go.Vw
variable {P : Program}

def fieldsOk (P : Program) (g : TypeId → List Kd → Bool) : List Field → Nat → List Kd → Bool
  | [], _, [] => true
  | [], _, _ :: _ => false
  | f :: fs, o, ks => match szT P f.type with
    | some n => (f.name != "_") && (f.offset == o) && Nat.ble n ks.length && g f.type (ks.take n) && fieldsOk P g fs (o + n) (ks.drop n)
    | none => false
/-- do values of this type hold just cells of these kinds, that are compared one by one? -/
def eqOk (P : Program) : Nat → TypeId → List Kd → Bool
  | 0, _, _ => false
  | d + 1, t, ks => match P.underlying t, ks with
    | some (.int _), [.int _] => true
    | some .string, [.str] => true
    | some .bool, [.bool] => true
    | some (.struct fs), ks => !P.stoodInHeld t && fieldsOk P (eqOk P d) fs.toList 0 ks
    | _, _ => false
def fitK : Kd → LV → Bool
  | .int k, .int j _ => decide (k = j)
  | .str, .str _ => true
  | .bool, .bool _ => true
  | .bool, .lit _ => true
  | _, _ => false
def fitKs : List Kd → List LV → Bool
  | [], [] => true
  | k :: ks, x :: xs => fitK k x && fitKs ks xs
  | _, _ => false
def eqLV : LV → LV → Bool
  | .int _ a, .int _ b => a == b
  | .str a, .str b => a == b
  | .bool a, .bool b => a == b
  | .bool a, .lit b => a == b
  | .lit a, .bool b => a == b
  | .lit a, .lit b => a == b
  | _, _ => false
def eqLVs : List LV → List LV → Bool
  | [], [] => true
  | x :: xs, y :: ys => eqLV x y && eqLVs xs ys
  | _, _ => false
theorem fitKs_length : ∀ {ks : List Kd} {xs : List LV}, fitKs ks xs = true → xs.length = ks.length
  | [], [], _ => rfl
  | [], _ :: _, h => by simp [fitKs] at h
  | _ :: _, [], h => by simp [fitKs] at h
  | k :: ks, x :: xs, h => by
    simp only [fitKs, Bool.and_eq_true] at h
    simp [fitKs_length h.2]
theorem fitKs_take : ∀ {ks : List Kd} {xs : List LV} (n : Nat), fitKs ks xs = true → fitKs (ks.take n) (xs.take n) = true ∧ fitKs (ks.drop n) (xs.drop n) = true
  | [], [], n, _ => by simp [fitKs]
  | [], _ :: _, _, h => by simp [fitKs] at h
  | _ :: _, [], _, h => by simp [fitKs] at h
  | k :: ks, x :: xs, 0, h => by simp only [List.take_zero, List.drop_zero]; exact ⟨rfl, h⟩
  | k :: ks, x :: xs, n + 1, h => by
    simp only [fitKs, Bool.and_eq_true] at h
    have := fitKs_take n h.2
    simp only [List.take_succ_cons, List.drop_succ_cons, fitKs, Bool.and_eq_true]
    exact ⟨⟨h.1, this.1⟩, this.2⟩
theorem eqLVs_split : ∀ (n : Nat) {xs ys : List LV}, xs.length = ys.length → eqLVs xs ys = (eqLVs (xs.take n) (ys.take n) && eqLVs (xs.drop n) (ys.drop n))
  | 0, xs, ys, _ => by simp [eqLVs]
  | n + 1, [], [], _ => by simp [eqLVs]
  | n + 1, [], _ :: _, h => by simp at h
  | n + 1, _ :: _, [], h => by simp at h
  | n + 1, x :: xs, y :: ys, h => by
    simp only [List.take_succ_cons, List.drop_succ_cons, eqLVs]
    rw [eqLVs_split n (by simpa using h), Bool.and_assoc]
/-- a value of a type, of its cells -/
def valT (P : Program) (t : TypeId) (xs : List LV) (v : Value) : Prop := match P.underlying t with
  | some d => if isAggD d then v = .agg (xs.map LV.toV).toArray else ∃ x, xs = [x] ∧ v = x.toV
  | none => False
theorem run_part_cells {t : TypeId} {n off : Nat} {xs : List LV} {d : Nat} {ks : List Kd} (hn : szT P t = some n) (hok : eqOk P d t ks = true) (hf : fitKs ks ((xs.drop off).take n) = true) (w : World) :
    ∃ v, (part t (xs.map LV.toV).toArray off).run P w = .ok v w ∧ valT P t ((xs.drop off).take n) v := by
  cases d with
  | zero => simp [eqOk] at hok
  | succ d =>
  unfold eqOk at hok
  unfold valT
  have one : ∀ k, ks = [k] → ∃ x, (xs.drop off).take n = [x] ∧ xs[off]? = some x := by
    intro k hk
    subst hk
    have hl := fitKs_length hf
    match hm : (xs.drop off).take n, hl with
    | [x], _ =>
      refine ⟨x, rfl, ?_⟩
      have h0 : ((xs.drop off).take n)[0]? = some x := by rw [hm]; rfl
      rw [List.getElem?_take] at h0
      split at h0
      · rw [List.getElem?_drop] at h0; simpa using h0
      · cases h0
  split at hok
  · rename_i k k2 hu
    obtain ⟨x, h1, h2⟩ := one _ rfl
    refine ⟨x.toV, ?_, ?_⟩
    · simp [part, run_isAgg hu, isAggD, h2]
    · rw [hu]; simp [isAggD, h1]
  · rename_i hu
    obtain ⟨x, h1, h2⟩ := one _ rfl
    refine ⟨x.toV, ?_, ?_⟩
    · simp [part, run_isAgg hu, isAggD, h2]
    · rw [hu]; simp [isAggD, h1]
  · rename_i hu
    obtain ⟨x, h1, h2⟩ := one _ rfl
    refine ⟨x.toV, ?_, ?_⟩
    · simp [part, run_isAgg hu, isAggD, h2]
    · rw [hu]; simp [isAggD, h1]
  · rename_i fs ks' hu
    refine ⟨.agg ((xs.map LV.toV).toArray.extract off (off + n)), ?_, ?_⟩
    · simp [part, run_isAgg hu, isAggD, run_sizeOf hn]
    · rw [hu]
      simp only [isAggD, if_true]
      congr 1
      simp [List.map_take, List.map_drop]
  · cases hok
theorem eqIn_run : ∀ (d m : Nat) (t : TypeId) (ks : List Kd) (xs ys : List LV) (v1 v2 : Value) (w : World), eqOk P d t ks = true → fitKs ks xs = true → fitKs ks ys = true → valT P t xs v1 → valT P t ys v2 →
    (Op.equalIn (d + m) t v1 v2).run P w = .ok (eqLVs xs ys) w
  | 0, _, _, _, _, _, _, _, _, h, _, _, _, _ => by simp [eqOk] at h
  | d + 1, m, t, ks, xs, ys, v1, v2, w, hok, hx, hy, h1, h2 => by
    unfold eqOk at hok
    unfold valT at h1 h2
    have e : d + 1 + m = (d + m) + 1 := by omega
    rw [e]
    split at hok
    · rename_i k k2 hu
      rw [hu] at h1 h2
      simp only [isAggD, Bool.false_eq_true, if_false] at h1 h2
      obtain ⟨x, rfl, rfl⟩ := h1
      obtain ⟨y, rfl, rfl⟩ := h2
      cases x <;> simp [fitKs, fitK] at hx
      cases y <;> simp [fitKs, fitK] at hy
      subst hx; subst hy
      simp only [LV.toV, eqLVs, eqLV, Bool.and_true]
      exact run_equalIn_int _ _ _ _ _ _ _ hu
    · rename_i hu
      rw [hu] at h1 h2
      simp only [isAggD, Bool.false_eq_true, if_false] at h1 h2
      obtain ⟨x, rfl, rfl⟩ := h1
      obtain ⟨y, rfl, rfl⟩ := h2
      cases x <;> simp [fitKs, fitK] at hx
      cases y <;> simp [fitKs, fitK] at hy
      simp only [LV.toV, eqLVs, eqLV, Bool.and_true]
      rw [run_equalIn_string _ _ _ _ _ hu, ByteArray.toList_mk, ByteArray.toList_mk]
    · rename_i hu
      rw [hu] at h1 h2
      simp only [isAggD, Bool.false_eq_true, if_false] at h1 h2
      obtain ⟨x, rfl, rfl⟩ := h1
      obtain ⟨y, rfl, rfl⟩ := h2
      cases x <;> simp [fitKs, fitK] at hx <;> cases y <;> simp [fitKs, fitK] at hy <;> simp only [LV.toV, eqLVs, eqLV, Bool.and_true] <;> exact run_equalIn_bool' _ _ _ _ _ hu
    · rename_i ks' fs hu
      rw [hu] at h1 h2
      simp only [isAggD, if_true] at h1 h2
      subst h1; subst h2
      simp only [Bool.and_eq_true, Bool.not_eq_true'] at hok
      have hfo : P.fieldsOf t = fs := by simp [Program.fieldsOf, hu]
      rw [run_equalIn_struct w (d + m) t _ _ (by rw [hfo]; exact hu) hok.1, hfo]
      have key : ∀ (fl : List Field) (o : Nat) (ks : List Kd), fieldsOk P (eqOk P d) fl o ks = true → fitKs ks (xs.drop o) = true → fitKs ks (ys.drop o) = true →
          (Op.eqFields (d + m) (xs.map LV.toV).toArray (ys.map LV.toV).toArray fl).run P w = .ok (eqLVs (xs.drop o) (ys.drop o)) w := by
        intro fl
        induction fl with
        | nil =>
          intro o ks hk hx hy
          cases ks with
          | cons => simp [fieldsOk] at hk
          | nil =>
            have e1 : xs.drop o = [] := List.eq_nil_of_length_eq_zero (fitKs_length hx)
            have e2 : ys.drop o = [] := List.eq_nil_of_length_eq_zero (fitKs_length hy)
            simp [Op.eqFields, e1, e2, eqLVs]
        | cons f fl ih =>
          intro o ks hk hx hy
          unfold fieldsOk at hk
          split at hk
          · rename_i n hn
            simp only [Bool.and_eq_true, bne_iff_ne, ne_eq, beq_iff_eq, Nat.ble_eq] at hk
            obtain ⟨⟨⟨⟨g1, g2⟩, g3⟩, g4⟩, g5⟩ := hk
            have fx := fitKs_take n hx
            have fy := fitKs_take n hy
            rw [List.drop_drop] at fx fy
            obtain ⟨a, ha, va⟩ := run_part_cells hn g4 fx.1 w
            obtain ⟨b, hb, vb⟩ := run_part_cells hn g4 fy.1 w
            have hr := eqIn_run d m f.type (ks.take n) _ _ a b w g4 fx.1 fy.1 va vb
            have hlen : (xs.drop o).length = (ys.drop o).length := (fitKs_length hx).trans (fitKs_length hy).symm
            rw [eqLVs_split n hlen, List.drop_drop, List.drop_drop]
            simp only [Op.eqFields, ne_eq, g1, not_false_eq_true, if_true, Sem.run_bind, g2, ha, hb, Result.andThen_ok, hr]
            cases hq : eqLVs ((xs.drop o).take n) ((ys.drop o).take n) with
            | false => simp
            | true =>
              simp only [Bool.not_true, Bool.false_eq_true, if_false, Bool.true_and]
              exact ih (o + n) (ks.drop n) g5 fx.2 fy.2
          · cases hk
      have := key fs.toList 0 _ hok.2 (by simpa using hx) (by simpa using hy)
      simpa using this
    · cases hok
/-- two structs are compared -/
theorem eqlK {t : TypeId} {d : Nat} {ks : List Kd} {xs ys : List LV} {a b : Array Value} {w : World} {o1 o2 : Operand} {K : Bool → World → Prop} (hok : eqOk P d t ks = true) (hd : d ≤ 10000) (hg : P.eqGuardType P.depth t = false) (hst : (P.underlying t).any isAggD = true)
    (ha : a = (xs.map LV.toV).toArray) (hb : b = (ys.map LV.toV).toArray) (hx : fitKs ks xs = true) (hy : fitKs ks ys = true) (hK : K (eqLVs xs ys) w) :
    opF P (vS (do eqGuard .eql t o1 o2 (.agg a) (.agg b); binOp .eql t (.agg a) (.agg b))) w (.one (.leaf .bool)) K := by
  subst ha; subst hb
  refine ⟨[.bool (eqLVs xs ys)], w, ?_, hK⟩
  obtain ⟨D, hu, hD⟩ : ∃ D, P.underlying t = some D ∧ isAggD D = true := by
    cases hu : P.underlying t with
    | none => rw [hu] at hst; cases hst
    | some D => rw [hu] at hst; exact ⟨D, rfl, hst⟩
  have hv : ∀ l : List LV, valT P t l (.agg (l.map LV.toV).toArray) := fun l => by unfold valT; rw [hu]; simp [hD]
  have h := eqIn_run d (10000 - d) t ks xs ys _ _ w hok hx hy (hv xs) (hv ys)
  rw [show d + (10000 - d) = 10000 by omega] at h
  simp only [vS, Sem.run_bind, run_eqGuard_agg w .eql t o1 o2 _ _ hg, Result.andThen, run_eql_struct, h]
  rfl
theorem neqK {t : TypeId} {d : Nat} {ks : List Kd} {xs ys : List LV} {a b : Array Value} {w : World} {o1 o2 : Operand} {K : Bool → World → Prop} (hok : eqOk P d t ks = true) (hd : d ≤ 10000) (hg : P.eqGuardType P.depth t = false) (hst : (P.underlying t).any isAggD = true)
    (ha : a = (xs.map LV.toV).toArray) (hb : b = (ys.map LV.toV).toArray) (hx : fitKs ks xs = true) (hy : fitKs ks ys = true) (hK : K (!eqLVs xs ys) w) :
    opF P (vS (do eqGuard .neq t o1 o2 (.agg a) (.agg b); binOp .neq t (.agg a) (.agg b))) w (.one (.leaf .bool)) K := by
  subst ha; subst hb
  refine ⟨[.bool (!eqLVs xs ys)], w, ?_, hK⟩
  obtain ⟨D, hu, hD⟩ : ∃ D, P.underlying t = some D ∧ isAggD D = true := by
    cases hu : P.underlying t with
    | none => rw [hu] at hst; cases hst
    | some D => rw [hu] at hst; exact ⟨D, rfl, hst⟩
  have hv : ∀ l : List LV, valT P t l (.agg (l.map LV.toV).toArray) := fun l => by unfold valT; rw [hu]; simp [hD]
  have h := eqIn_run d (10000 - d) t ks xs ys _ _ w hok hx hy (hv xs) (hv ys)
  rw [show d + (10000 - d) = 10000 by omega] at h
  simp only [vS, Sem.run_bind, run_eqGuard_agg w .neq t o1 o2 _ _ hg, Result.andThen, run_neq_struct, h]
  rfl
end Go.Vw
