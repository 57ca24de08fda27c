/- The typed reading is sound, first part: environments; operations that leave the world alone. -/
import Derived.Test.YtfhojgammfkabaaW1
import Derived.Laws.Sem
import Derived.Laws.Entries
import Derived.Laws.Strings
namespace Go.Vw
variable {P : Program}

/-! ### environments -/
/-- the deferred calls of an activation, as it is known -/
def dfOf (e : Env) : List Deferred := (e.marks.map fun r => { target := .collected r, args := #[] }) ++ e.calls.map fun c => { target := .fn (.func c.1) #[], args := (c.2.map AV.toV).toArray }
structure Sim (e : Env) (a : Act) : Prop where
  size : a.tmps.size = e.n
  get : ∀ t v, eget e t = some v → a.tmps[t]? = some v.toV
  dfs : a.defers = dfOf e

theorem lget_cons (i : Nat) (v : TV) (r : List (Nat × TV)) (t : Nat) : lget ((i, v) :: r) t = if i = t then some v else lget r t := by
  simp only [lget]
  by_cases h : i = t
  · subst h; simp
  · have : Nat.beq i t = false := by
      cases hb : Nat.beq i t with
      | false => rfl
      | true => exact absurd (Nat.eq_of_beq_eq_true hb) h
    simp [this, h]
theorem eget_eset (e : Env) (d : Nat) (v : TV) (t : Nat) : eget (eset e d v) t = if d < e.n then (if d = t then some v else eget e t) else eget e t := by
  unfold eget eset
  by_cases h : d < e.n
  · have : Nat.blt d e.n = true := by rw [Nat.blt_eq]; exact h
    simp [this, h, lget_cons]
  · have : Nat.blt d e.n = false := by
      cases hb : Nat.blt d e.n with
      | false => rfl
      | true => rw [Nat.blt_eq] at hb; exact absurd hb h
    simp [this, h]
theorem Sim.set {e : Env} {a : Act} (h : Sim e a) (d : Nat) (t : TV) : Sim (eset e d t) { a with tmps := a.tmps.setIfInBounds d t.toV } := by
  refine ⟨by simp [eset, h.size], fun m v hv => ?_, h.dfs⟩
  rw [eget_eset] at hv
  by_cases hd : d < e.n
  · rw [if_pos hd] at hv
    by_cases hm : d = m
    · subst hm; rw [if_pos rfl] at hv; cases hv
      simp [Array.getElem?_setIfInBounds, h.size, hd]
    · rw [if_neg hm] at hv
      have := h.get m v hv
      simp [Array.getElem?_setIfInBounds, hm, this]
  · rw [if_neg hd] at hv
    have := h.get m v hv
    have hlt : m < a.tmps.size := (Array.getElem?_eq_some_iff.1 this).1
    have hm : d ≠ m := by intro e'; subst e'; rw [h.size] at hlt; exact hd hlt
    simp [Array.getElem?_setIfInBounds, hm, this]
/-- what the activation holds may be told -/
theorem Sim.learn {e : Env} {a : Act} (h : Sim e a) {d : Nat} {t : TV} (ht : a.tmps[d]? = some t.toV) : Sim (eset e d t) a := by
  refine ⟨by simp [eset, h.size], fun m v hv => ?_, h.dfs⟩
  rw [eget_eset] at hv
  split at hv
  · split at hv
    · rename_i hm; subst hm; cases hv; exact ht
    · exact h.get m v hv
  · exact h.get m v hv
/-- what is known may be told otherwise, if it is the same value -/
theorem Sim.retell {e : Env} {a : Act} (h : Sim e a) {d : Nat} {s t : TV} (hs : eget e d = some s) (ht : t.toV = s.toV) : Sim (eset e d t) a :=
  h.learn (by rw [ht]; exact h.get d s hs)
theorem Sim.put {e : Env} {a : Act} (h : Sim e a) (d : Option Tmp) (t : TV) : Sim (put e d t) (a.put d t.toV) := by
  cases d with
  | none => exact h
  | some d => exact h.set d t
theorem Sim.putO {e : Env} {a : Act} (h : Sim e a) (d : Option Tmp) : Sim (esetO e d) (a.put d undef) := by
  cases d with
  | none => exact h
  | some d => exact h.set d (.tup [])

theorem ofLV_toV (v : Value) : (ofLV v).toV = v := by
  cases v with
  | pointer a => cases a <;> rfl
  | slice a n c => cases a <;> rfl
  | string s => rfl
  | _ => rfl
theorem ofV_toV (v : Value) : (ofV v).toV = v := by
  have key : ∀ vs : Array Value, (vs.toList.map ofLV).map LV.toV = vs.toList := fun vs => by
    rw [List.map_map]
    exact (List.map_congr_left fun x _ => ofLV_toV x).trans (List.map_id _)
  cases v with
  | agg vs => simp [ofV, TV.toV, AV.toV, key vs]
  | pointer a => cases a <;> rfl
  | slice a n c => cases a <;> rfl
  | string s => rfl
  | _ => rfl
theorem rd_sound {e : Env} {a : Act} (h : Sim e a) {x : Operand} {t : TV} (hr : rd e x = some t) : a.eval x = t.toV := by
  cases x with
  | tmp n => simp [Act.eval, Array.getD_eq_getD_getElem?, h.get n t hr]
  | const v => simp [rd] at hr; subst hr; simp [Act.eval, ofV_toV]
  | global g => simp [rd] at hr; subst hr; rfl
  | func f => simp [rd] at hr; subst hr; rfl
theorem rdL_sound {e : Env} {a : Act} (h : Sim e a) {x : Operand} {l : LV} (hr : rdL e x = some l) : a.eval x = l.toV := by
  unfold rdL at hr
  split at hr
  · rename_i y hy; cases hr; exact rd_sound h hy
  · cases hr
theorem rdA_sound {e : Env} {a : Act} (h : Sim e a) {x : Operand} {v : AV} (hr : rdA e x = some v) : a.eval x = v.toV := by
  unfold rdA at hr
  split at hr
  · rename_i y hy; cases hr; exact rd_sound h hy
  · cases hr
theorem rdAs_sound {e : Env} {a : Act} (h : Sim e a) : ∀ {xs : List Operand} {vs : List AV}, rdAs e xs = some vs → xs.map a.eval = vs.map AV.toV
  | [], vs, hr => by simp [rdAs] at hr; subst hr; rfl
  | x :: r, vs, hr => by
    unfold rdAs at hr
    split at hr
    · rename_i v l hv hl; cases hr
      simp [rdA_sound h hv, rdAs_sound h hl]
    · cases hr
theorem rdAs_array {e : Env} {a : Act} (h : Sim e a) {xs : Array Operand} {vs : List AV} (hr : rdAs e xs.toList = some vs) : xs.map a.eval = (vs.map AV.toV).toArray := by
  rw [← rdAs_sound h hr]
  exact Array.ext' (by rw [Array.toList_map])
theorem rdA_rdL {e : Env} {x : Operand} {l : LV} (hr : rdL e x = some l) : rdA e x = some (.leaf l) := by
  unfold rdL at hr; unfold rdA
  split at hr
  · rename_i y hy; cases hr; simp [hy]
  · cases hr
theorem nth_getElem? {α : Type} : ∀ (l : List α) (n : Nat), nth l n = l[n]?
  | [], _ => rfl
  | _ :: _, 0 => rfl
  | _ :: r, n + 1 => by rw [List.getElem?_cons_succ]; exact nth_getElem? r n


/-! ### addresses -/
theorem Addr.add_none (b o n : Nat) : (⟨b, o, none⟩ : Addr).add n = ⟨b, o + n, none⟩ := by
  unfold Addr.add; split
  · rename_i h; subst h; rfl
  · rfl
theorem addO_eq (o n : Nat) : addO o n = o + n := by cases n <;> rfl

/-! ### the same operations, as the model runs them -/
/-- operation 'op' answers 't', whatever the world -/
def Pur (P : Program) (ρ : Operand → Value) (o : Oper) (t : TV) : Prop := ∀ w, (execOp ρ o).run P w = .ok (.value t.toV) w

theorem isCmp_arI {op : BinOp} {k : IntKind} {x y : Int} {l : LV} (h : arI op k x y = some l) (ρ : Sem Value) : True := trivial

theorem run_eqGuard_int (op : BinOp) (t : TypeId) (x y : Operand) (k j : IntKind) (a b : Int) (w : World) : (eqGuard op t x y (.int k a) (.int j b)).run P w = .ok () w := by
  unfold eqGuard; cases op <;> rfl
theorem run_eqGuard_str (op : BinOp) (t : TypeId) (x y : Operand) (a b : ByteArray) (w : World) : (eqGuard op t x y (.string a) (.string b)).run P w = .ok () w := by
  unfold eqGuard; cases op <;> rfl
theorem run_binOp_arI {op : BinOp} {t : TypeId} {k : IntKind} {x y : Int} {l : LV} (h : arI op k x y = some l) (w : World) : (binOp op t (.int k x) (.int k y)).run P w = .ok l.toV w := by
  cases op <;> simp [arI] at h <;> subst h <;> simp [binOp, Op.intArith, Op.intCmp, Op.intBits, LV.toV, bitI]
theorem ba_len (l : List UInt8) : (ByteArray.mk l.toArray).size = l.length := by simp [ByteArray.size]
theorem run_binOp_stI {op : BinOp} {t : TypeId} {x y : List UInt8} {l : LV} (h : stI op x y = some l) (w : World) : (binOp op t (.string ⟨x.toArray⟩) (.string ⟨y.toArray⟩)).run P w = .ok l.toV w := by
  cases op <;> simp [stI] at h <;> subst h <;> simp [binOp, Op.stringOp, LV.toV, ByteArray.toList_mk]

theorem isNone_paV (p : PA) : (paV p).isNone = p.isNone := by cases p <;> rfl
theorem isNone_slA (c : Nat) (p : PA) : (slA c p).isNone = p.isNone := by cases p <;> rfl
theorem slA_pos {c : Nat} (h : c ≠ 0) (p : PA) : slA c p = paV p := by
  cases p with
  | none => rfl
  | some a => obtain ⟨b, o⟩ := a; simp [slA, paV, h]
theorem decA_zero (b : Nat) : decA b 0 = ⟨b, 0, none⟩ := rfl
theorem decA_even (b o : Nat) : decA b (2 * o) = ⟨b, o, none⟩ := by
  unfold decA
  rw [if_pos (by omega)]
  congr 1
  omega
theorem slA_zero (c b : Nat) : slA c (some (b, 0)) = some ⟨b, 0, none⟩ := by
  simp only [slA]; split <;> rfl
theorem dg_all : ∀ s y, y ≤ s → ∃ k, dg k = (s - y, y)
  | 0, 0, _ => ⟨0, rfl⟩
  | s + 1, 0, _ => by
    obtain ⟨k, hk⟩ := dg_all s s (Nat.le_refl _)
    refine ⟨k + 1, ?_⟩
    rw [Nat.sub_self] at hk
    simp only [dg, hk, Nat.sub_zero]
  | s, y + 1, h => by
    obtain ⟨k, hk⟩ := dg_all s y (by omega)
    refine ⟨k + 1, ?_⟩
    rw [show s - y = (s - (y + 1)) + 1 by omega] at hk
    simp only [dg, hk]
termination_by s y => (s, y)
theorem decA_all (a : Addr) : ∃ o, decA a.block o = a := by
  obtain ⟨b, o, sp⟩ := a
  cases sp with
  | none => exact ⟨2 * o, decA_even b o⟩
  | some s =>
    obtain ⟨k, hk⟩ := dg_all (o + s) s (by omega)
    refine ⟨2 * k + 1, ?_⟩
    unfold decA
    rw [if_neg (by omega), show (2 * k + 1) / 2 = k by omega, hk]
    simp

theorem nilC_cases {x : Operand} (h : nilC x = true) : x = .const (.pointer none) ∨ x = .const (.slice none 0 0) ∨ x = .const (.map none) := by
  unfold nilC at h
  split at h <;> simp_all

/-- x == nil, either way round -/
theorem run_equalIn_nil (n : Nat) {d : TypeDesc} {t : TypeId} {l : LV} {b : Bool} {c : Operand} {cv : Value} (hu : P.underlying t = some d) (hb : isNil d l = some b)
    (hf : nilFits d c = true) (hc : c = .const cv) (w : World) :
    (Op.equalIn (n + 1) t l.toV cv).run P w = .ok b w ∧ (Op.equalIn (n + 1) t cv l.toV).run P w = .ok b w := by
  unfold isNil at hb
  subst hc
  split at hb
  · rename_i el p
    cases hb
    unfold nilFits at hf
    split at hf <;> simp_all
    cases p <;> simp [Op.equalIn, run_underlying hu, LV.toV, paV]
  · rename_i el s
    cases hb
    unfold nilFits at hf
    split at hf <;> simp_all
    obtain ⟨p, n, cp⟩ := s
    cases p <;> simp [Op.equalIn, run_underlying hu, LV.toV, slA]
  · rename_i kt el r
    cases hb
    unfold nilFits at hf
    split at hf <;> simp_all
    cases r <;> simp [Op.equalIn, run_underlying hu, LV.toV]
  · cases hb

theorem run_eqGuard_ptrl (op : BinOp) (t : TypeId) (x y : Operand) (l : LV) (v : Value) (d : TypeDesc) (b : Bool) (hb : isNil d l = some b) (w : World) :
    (eqGuard op t x y l.toV v).run P w = .ok () w ∧ (eqGuard op t x y v l.toV).run P w = .ok () w := by
  unfold isNil at hb
  split at hb
  · unfold eqGuard; constructor <;> cases op <;> (try rfl) <;> cases v <;> rfl
  · unfold eqGuard; constructor <;> cases op <;> (try rfl) <;> cases v <;> rfl
  · unfold eqGuard; constructor <;> cases op <;> (try rfl) <;> cases v <;> rfl
  · cases hb

theorem run_nilEq {op : BinOp} {t : TypeId} {c : Operand} {l : LV} {r : TV} {cv : Value} (h : nilEq P op t c l = some r) (hc : c = .const cv) (w : World) :
    (binOp op t l.toV cv).run P w = .ok r.toV w ∧ (binOp op t cv l.toV).run P w = .ok r.toV w := by
  unfold nilEq at h
  split at h
  · rename_i d hu
    split at h
    · rename_i hf
      have key : ∀ b, isNil d l = some b → (Op.equal t l.toV cv).run P w = .ok b w ∧ (Op.equal t cv l.toV).run P w = .ok b w := fun b hb =>
        run_equalIn_nil 9999 hu hb hf hc w
      have hsh : ∀ b, isNil d l = some b → (∃ p, l = .ptr p ∧ ∃ q, cv = .pointer q) ∨ (∃ s, l = .sl s ∧ ∃ q n m, cv = .slice q n m) ∨ (∃ r, l = .map r ∧ ∃ q, cv = .map q) := fun b hb => by
        unfold isNil at hb
        subst hc
        unfold nilFits at hf
        split at hb <;> (try cases hb) <;> split at hf <;> simp_all
      split at h
      · rename_i b hb; cases h
        obtain ⟨k1, k2⟩ := key b hb
        rcases hsh b hb with ⟨p, rfl, q, rfl⟩ | ⟨s, rfl, q, n, m, rfl⟩ | ⟨r, rfl, q, rfl⟩
        · simp only [LV.toV] at k1 k2 ⊢
          constructor <;> simp [binOp, k1, k2, boolL, TV.toV, AV.toV, LV.toV]
        · simp only [LV.toV] at k1 k2 ⊢
          constructor <;> simp [binOp, k1, k2, boolL, TV.toV, AV.toV, LV.toV]
        · simp only [LV.toV] at k1 k2 ⊢
          constructor <;> simp [binOp, k1, k2, boolL, TV.toV, AV.toV, LV.toV]
      · rename_i b hb; cases h
        obtain ⟨k1, k2⟩ := key b hb
        rcases hsh b hb with ⟨p, rfl, q, rfl⟩ | ⟨s, rfl, q, n, m, rfl⟩ | ⟨r, rfl, q, rfl⟩
        · simp only [LV.toV] at k1 k2 ⊢
          constructor <;> simp [binOp, k1, k2, boolL, TV.toV, AV.toV, LV.toV]
        · simp only [LV.toV] at k1 k2 ⊢
          constructor <;> simp [binOp, k1, k2, boolL, TV.toV, AV.toV, LV.toV]
        · simp only [LV.toV] at k1 k2 ⊢
          constructor <;> simp [binOp, k1, k2, boolL, TV.toV, AV.toV, LV.toV]
      · cases h
    · cases h
  · cases h
theorem nilC_const {x : Operand} (h : nilC x = true) : ∃ v, x = .const v := by
  unfold nilC at h
  split at h <;> simp_all

theorem vrun {s : Sem Value} {v : Value} {w : World} (h : s.run P w = .ok v w) : (do pure (Next.value (← s)) : Sem Next).run P w = .ok (.value v) w := by simp [h]

theorem isNil_of_nilEq {op : BinOp} {t : TypeId} {c : Operand} {l : LV} {r : TV} (h : nilEq P op t c l = some r) : ∃ d b, isNil d l = some b := by
  unfold nilEq at h
  split at h
  · rename_i d hu
    split at h
    · split at h
      · rename_i b hb; exact ⟨_, _, hb⟩
      · rename_i b hb; exact ⟨_, _, hb⟩
      · cases h
    · cases h
  · cases h

theorem bin0_sound {e : Env} {a : Act} (hs : Sim e a) {op : BinOp} {t : TypeId} {x y : Operand} {r : TV} (h : bin0 P e op t x y = some r) (w : World) :
    (do eqGuard op t x y (a.eval x) (a.eval y); binOp op t (a.eval x) (a.eval y)).run P w = .ok r.toV w := by
  unfold bin0 at h
  split at h
  · rename_i hn
    obtain ⟨l, hl, h⟩ := Option.bind_eq_some_iff.1 h
    obtain ⟨v, rfl⟩ := nilC_const hn
    obtain ⟨d, b, hb⟩ := isNil_of_nilEq h
    have hv : a.eval (.const v) = v := rfl
    rw [rdL_sound hs hl, hv]
    simp [(run_eqGuard_ptrl op t x (.const v) l v d b hb w).1, (run_nilEq h rfl w).1]
  · split at h
    · rename_i hn
      obtain ⟨l, hl, h⟩ := Option.bind_eq_some_iff.1 h
      obtain ⟨v, rfl⟩ := nilC_const hn
      obtain ⟨d, b, hb⟩ := isNil_of_nilEq h
      have hv : a.eval (.const v) = v := rfl
      rw [rdL_sound hs hl, hv]
      simp [(run_eqGuard_ptrl op t (.const v) y l v d b hb w).2, (run_nilEq h rfl w).2]
    · split at h
      · rename_i k m j n hx hy
        rw [rdL_sound hs hx, rdL_sound hs hy]
        split at h
        · rename_i hl; cases h
          have : 0 ≤ n := by
            cases y with
            | const v => cases v <;> simp [litNat] at hl; simp [rdL, rd, ofV, ofLV] at hy; omega
            | _ => simp [litNat] at hl
          simp [LV.toV, run_eqGuard_int, binOp, Op.shift, Int.not_lt.2 this, intL, TV.toV, AV.toV, shlI]
        · cases h
      · rename_i k m j n hx hy
        rw [rdL_sound hs hx, rdL_sound hs hy]
        split at h
        · rename_i hl; cases h
          have : 0 ≤ n := by
            cases y with
            | const v => cases v <;> simp [litNat] at hl; simp [rdL, rd, ofV, ofLV] at hy; omega
            | _ => simp [litNat] at hl
          simp [LV.toV, run_eqGuard_int, binOp, Op.shift, Int.not_lt.2 this, intL, TV.toV, AV.toV, shrI]
        · cases h
      · rename_i k m j n hx hy
        rw [rdL_sound hs hx, rdL_sound hs hy]
        split at h
        · rename_i hk; subst hk
          split at h
          · rename_i hl; cases h
            have : n ≠ 0 := by
              cases y with
              | const v => cases v <;> simp [litNZ] at hl; simp [rdL, rd, ofV, ofLV] at hy; omega
              | _ => simp [litNZ] at hl
            simp [LV.toV, run_eqGuard_int, binOp, Op.intDiv, this, intL, TV.toV, AV.toV]
          · cases h
        · cases h
      · rename_i k m j n hx hy
        rw [rdL_sound hs hx, rdL_sound hs hy]
        split at h
        · rename_i hk; subst hk
          split at h
          · rename_i hl; cases h
            have : n ≠ 0 := by
              cases y with
              | const v => cases v <;> simp [litNZ] at hl; simp [rdL, rd, ofV, ofLV] at hy; omega
              | _ => simp [litNZ] at hl
            simp [LV.toV, run_eqGuard_int, binOp, Op.intDiv, this, intL, TV.toV, AV.toV]
          · cases h
        · cases h
      · rename_i k m j n _ _ _ _ hx hy
        rw [rdL_sound hs hx, rdL_sound hs hy]
        split at h
        · rename_i hk; subst hk
          obtain ⟨l, hl, rfl⟩ := Option.map_eq_some_iff.1 h
          simp only [LV.toV]
          simp [run_eqGuard_int, run_binOp_arI hl, TV.toV, AV.toV]
        · cases h
      · rename_i m n hx hy
        rw [rdL_sound hs hx, rdL_sound hs hy]
        obtain ⟨l, hl, rfl⟩ := Option.map_eq_some_iff.1 h
        simp only [LV.toV]
        simp [run_eqGuard_str, run_binOp_stI hl, TV.toV, AV.toV]
      · cases h
end Go.Vw
