/- The typed reading is sound, third part: operations that may fail; loads. -/
import Derived.Test.YtfhojgammfkabaaW3
namespace Go.Vw
variable {P : Program}

theorem ba_extract (s : List UInt8) (l h : Nat) : (ByteArray.mk s.toArray).extract l h = ⟨((s.drop l).take (h - l)).toArray⟩ := by
  apply ByteArray.ext
  simp [List.extract_eq_take_drop]
theorem ba_append (a b : List UInt8) : (ByteArray.mk a.toArray) ++ (ByteArray.mk b.toArray) = ⟨(a ++ b).toArray⟩ := by
  apply ByteArray.ext
  simp

theorem run_sliceBound {k : IntKind} {n : Int} {y : Nat} {c : BoundsCode} {m : Nat} (h : (m : Int) = n) (hy : m ≤ y) (w : World) : (Instr.sliceBound (.int k n) y c).run P w = .ok m w := by
  subst h
  have : (0 : Int) ≤ m ∧ (m : Int) ≤ y := ⟨by omega, by omega⟩
  simp [Instr.sliceBound, asIntOf, this]

/-- an optional bound -/
def BV (o : Option Int) (v : Option Value) : Prop := match o, v with
  | none, none => True
  | some n, some (.int _ m) => m = n
  | _, _ => False
theorem run_sliceBounds {sl : Bool} {len cap l h m : Nat} {lo hi mx : Option Int} {vl vh vm : Option Value} (hl : BV lo vl) (hh : BV hi vh) (hm : BV mx vm)
    (el : (l : Int) = lo.getD 0) (eh : (h : Int) = hi.getD len) (em : (m : Int) = mx.getD cap) (h1 : l ≤ h) (h2 : h ≤ m) (h3 : m ≤ cap) (h4 : mx.isSome = true → hi.isSome = true) (w : World) :
    (Instr.sliceBounds sl len cap vl vh vm).run P w = .ok (l, h, m) w := by
  unfold Instr.sliceBounds
  cases mx with
  | none =>
    cases vm with
    | some v => exact hm.elim
    | none =>
      simp only [Option.getD_none] at em
      have em' : m = cap := by omega
      subst em'
      cases hi with
      | none =>
        cases vh with
        | some v => exact hh.elim
        | none =>
          simp only [Option.getD_none] at eh
          have eh' : h = len := by omega
          subst eh'
          cases lo with
          | none =>
            cases vl with
            | some v => exact hl.elim
            | none => simp only [Option.getD_none] at el; have : l = 0 := by omega
                      subst this; simp
          | some n =>
            cases vl with
            | none => exact hl.elim
            | some v => cases v <;> first | exact hl.elim | (simp only [BV] at hl; subst hl; simp [run_sliceBound (by simpa using el) h1])
      | some q =>
        cases vh with
        | none => exact hh.elim
        | some v =>
          cases v <;> first | exact hh.elim | skip
          simp only [BV] at hh; subst hh
          cases lo with
          | none =>
            cases vl with
            | some v => exact hl.elim
            | none => simp only [Option.getD_none] at el; have : l = 0 := by omega
                      subst this; simp [run_sliceBound (by simpa using eh) h2]
          | some n =>
            cases vl with
            | none => exact hl.elim
            | some v => cases v <;> first | exact hl.elim | (simp only [BV] at hl; subst hl; simp [run_sliceBound (by simpa using el) h1, run_sliceBound (by simpa using eh) h2])
  | some r =>
    cases vm with
    | none => exact hm.elim
    | some v =>
      cases v <;> first | exact hm.elim | skip
      simp only [BV] at hm; subst hm
      cases hi with
      | none => simp at h4
      | some q =>
        cases vh with
        | none => exact hh.elim
        | some v =>
          cases v <;> first | exact hh.elim | skip
          simp only [BV] at hh; subst hh
          cases lo with
          | none =>
            cases vl with
            | some v => exact hl.elim
            | none => simp only [Option.getD_none] at el; have : l = 0 := by omega
                      subst this; simp [run_sliceBound (by simpa using eh) h2, run_sliceBound (by simpa using em) h3]
          | some n =>
            cases vl with
            | none => exact hl.elim
            | some v => cases v <;> first | exact hl.elim | (simp only [BV] at hl; subst hl; simp [run_sliceBound (by simpa using el) h1, run_sliceBound (by simpa using eh) h2, run_sliceBound (by simpa using em) h3])

theorem slA_cut (s : Sl) (sz l h m : Nat) (g1 : l ≤ h) (g2 : h ≤ m) (g3 : m ≤ s.cap) : slA (s.cut sz l h m).cap (s.cut sz l h m).p = if m = l then slA s.cap s.p else (slA s.cap s.p).map (·.add (l * sz)) := by
  obtain ⟨p, n, c⟩ := s
  simp only at g3
  unfold Sl.cut
  by_cases hm : m = l
  · subst hm
    simp only [if_true, Nat.sub_self]
    by_cases hc : c = 0
    · subst hc; simp
    · simp only [if_neg hc]
      cases p with
      | none => rfl
      | some x => obtain ⟨b, o⟩ := x; simp [slA, hc, decA_even]
  · simp only [if_neg hm]
    have h1 : m - l ≠ 0 := by omega
    have h2 : c ≠ 0 := by omega
    cases p with
    | none => rfl
    | some x => obtain ⟨b, o⟩ := x; simp [slA, h1, h2, Addr.add_none]

theorem BV_of {e : Env} {a : Act} (hs : Sim e a) {o : Option Operand} {r : Option Int}
    (h : (match o with | none => some none | some o => match rdL e o with | some (.int _ n) => some (some n) | _ => none) = some r) : BV r (o.map a.eval) := by
  cases o with
  | none => simp at h; subst h; trivial
  | some x =>
    simp only at h
    split at h
    · rename_i k n hx; cases h; simp [BV, rdL_sound hs hx, LV.toV]
    · cases h

theorem run_equalIn_func (n : Nat) {t : TypeId} {a1 a2 : Array TypeId} {a3 : Bool} (hu : P.underlying t = some (.func a1 a2 a3)) (w : World) :
    (Op.equalIn (n + 1) t .nilFunc .nilFunc).run P w = .ok true w ∧ ∀ f q c, (Op.equalIn (n + 1) t (.func f q c) .nilFunc).run P w = .ok false w := by
  constructor
  · simp [Op.equalIn, run_underlying hu]
  · intro f q c; simp [Op.equalIn, run_underlying hu]
theorem run_neq_func {t : TypeId} {a1 a2 : Array TypeId} {a3 : Bool} (hu : P.underlying t = some (.func a1 a2 a3)) (w : World) (op : BinOp) (hop : op = .eql ∨ op = .neq) (x y : Operand) :
    (do eqGuard op t x y .nilFunc .nilFunc; binOp op t .nilFunc .nilFunc : Sem Value).run P w = .ok (.bool (op == .eql)) w ∧
    ∀ f q c, (do eqGuard op t x y (.func f q c) .nilFunc; binOp op t (.func f q c) .nilFunc : Sem Value).run P w = .ok (.bool (!(op == .eql))) w := by
  obtain ⟨h1, h2⟩ := run_equalIn_func 9999 hu w
  have h1' : (Op.equal t .nilFunc .nilFunc).run P w = .ok true w := h1
  have h2' : ∀ f q c, (Op.equal t (.func f q c) .nilFunc).run P w = .ok false w := h2
  rcases hop with rfl | rfl
  · constructor
    · simp [eqGuard, binOp, h1']
    · intro f q c; simp [eqGuard, binOp, h2' f q c]
  · constructor
    · simp [eqGuard, binOp, h1']
    · intro f q c; simp [eqGuard, binOp, h2' f q c]

theorem pu1_sound {e : Env} {a : Act} (hs : Sim e a) {o : Oper} {k : TV → Prop} {p : Prop} (h : pu1 P e o.op k = some p) (hp : p) : ∃ t, k t ∧ Pur P a.eval o t := by
  obtain ⟨dst, op, ty, pos, after, guard⟩ := o
  simp only at h
  cases op with
  | nilCheck x =>
    simp only [pu1] at h
    split at h
    · rename_i q hx; cases h
      obtain ⟨b, o', rfl, hk⟩ := hp
      exact ⟨_, hk, fun w => by simp [execOp, rdL_sound hs hx, LV.toV, paV, TV.toV, AV.toV]⟩
    · cases h
  | indexAddr t x i =>
    simp only [pu1] at h
    split at h
    · rename_i el s kk n hu hx hi
      split at h
      · rename_i sz hsz; cases h
        obtain ⟨b, o', hsp, hcz, h0, h1, hk⟩ := hp
        refine ⟨_, hk, fun w => vok rfl ?_⟩
        obtain ⟨sp, sn, sc⟩ := s
        simp only at hsp h1 hcz
        subst hsp
        rw [rdL_sound hs hx, rdL_sound hs hi]
        simp [LV.toV, paV, slA, hcz, Instr.indexAt, run_underlying hu, asIntOf, h0, h1, run_sizeOf hsz, Addr.add_none, TV.toV, AV.toV]
      · cases h
    · cases h
  | index t x i =>
    simp only [pu1] at h
    split at h
    · rename_i s kk n hu hx hi; cases h
      obtain ⟨c, hc, h0, hk⟩ := hp
      refine ⟨_, hk, fun w => vok rfl ?_⟩
      rw [rdL_sound hs hx, rdL_sound hs hi]
      have hlt : n.toNat < s.length := (List.getElem?_eq_some_iff.1 hc).1
      have hb : (ByteArray.mk s.toArray)[n.toNat]? = some c := by
        have h2 : n.toNat < (ByteArray.mk s.toArray).size := by simpa [ByteArray.size] using hlt
        rw [getElem?_pos (ByteArray.mk s.toArray) n.toNat h2]
        exact congrArg some (List.getElem?_eq_some_iff.1 hc).2
      simp [LV.toV, Instr.index, run_underlying hu, asIntOf, h0, hb, intL, TV.toV, AV.toV]
    · cases h
  | slice t x lo hi mx =>
    simp only [pu1] at h
    split at h
    · rename_i el s lo' hi' mx' hu hx hlo hhi hmx
      split at h
      · rename_i sz hsz
        split at h
        · cases h
        · rename_i hno; cases h
          obtain ⟨l, h', m, e1, e2, e3, g1, g2, g3, hk⟩ := hp
          refine ⟨_, hk, fun w => vok rfl ?_⟩
          rw [rdL_sound hs hx]
          have hb := run_sliceBounds (P := P) (sl := true) (BV_of hs hlo) (BV_of hs hhi) (BV_of hs hmx) e1 e2 e3 g1 g2 g3 (fun h => by
            cases hi' with
            | none => simp [h] at hno
            | some _ => rfl) w
          simp [Instr.sliceAt, run_underlying hu, Instr.slice, LV.toV, hb, run_sizeOf hsz, TV.toV, AV.toV, slA_cut s sz l h' m g1 g2 g3]
          simp [Sl.cut]
      · cases h
    · rename_i s lo' hi' hu hx hlo hhi hmx; cases h
      obtain ⟨l, h', e1, e2, g1, g2, hk⟩ := hp
      refine ⟨_, hk, fun w => vok rfl ?_⟩
      rw [rdL_sound hs hx]
      have hmx' : mx = none := by
        cases mx with
        | none => rfl
        | some q => simp only at hmx; split at hmx <;> cases hmx
      subst hmx'
      have hb := run_sliceBounds (P := P) (sl := false) (len := s.length) (cap := s.length) (m := s.length) (mx := none) (vm := none) (BV_of hs hlo) (BV_of hs hhi) trivial e1 e2 (by simp) g1 g2 (Nat.le_refl _) (by simp) w
      have hsz : (ByteArray.mk s.toArray).size = s.length := ba_len s
      simp [Instr.sliceAt, run_underlying hu, Instr.slice, LV.toV, hsz, hb, TV.toV, AV.toV, ba_extract]
    · cases h
  | binOp op t x y yt =>
    simp only [pu1] at h
    split at h
    · rename_i i m j n hx hy
      split at h
      · rename_i hij; subst hij; cases h
        obtain ⟨hn, hk⟩ := hp
        refine ⟨_, hk, fun w => vok rfl ?_⟩
        rw [rdL_sound hs hx, rdL_sound hs hy]
        simp [LV.toV, run_eqGuard_int, binOp, Op.intDiv, hn, intL, TV.toV, AV.toV]
      · cases h
    · rename_i i m j n hx hy
      split at h
      · rename_i hij; subst hij; cases h
        obtain ⟨hn, hk⟩ := hp
        refine ⟨_, hk, fun w => vok rfl ?_⟩
        rw [rdL_sound hs hx, rdL_sound hs hy]
        simp [LV.toV, run_eqGuard_int, binOp, Op.intDiv, hn, intL, TV.toV, AV.toV]
      · cases h
    · rename_i i m j n hx hy; cases h
      obtain ⟨hn, hk⟩ := hp
      refine ⟨_, hk, fun w => vok rfl ?_⟩
      rw [rdL_sound hs hx, rdL_sound hs hy]
      simp [LV.toV, run_eqGuard_int, binOp, Op.shift, Int.not_lt.2 hn, intL, TV.toV, AV.toV, shlI]
    · rename_i i m j n hx hy; cases h
      obtain ⟨hn, hk⟩ := hp
      refine ⟨_, hk, fun w => vok rfl ?_⟩
      rw [rdL_sound hs hx, rdL_sound hs hy]
      simp [LV.toV, run_eqGuard_int, binOp, Op.shift, Int.not_lt.2 hn, intL, TV.toV, AV.toV, shrI]
    · rename_i m n hx hy; cases h
      obtain ⟨hn, hk⟩ := hp
      refine ⟨_, hk, fun w => vok rfl ?_⟩
      rw [rdL_sound hs hx, rdL_sound hs hy]
      have hle : ¬ (((ByteArray.mk m.toArray).size + (ByteArray.mk n.toArray).size : Nat) : Int) > IntKind.i64.max := by
        rw [ba_len, ba_len]
        have : IntKind.i64.max = 9223372036854775807 := by decide
        rw [this]
        have h62 : (2 : Nat) ^ 62 = 4611686018427387904 := by decide
        rw [h62] at hn
        omega
      simp only [LV.toV]
      simp only [Sem.run_bind, run_eqGuard_str, Result.andThen_ok]
      simp only [binOp, Op.stringOp]
      rw [if_neg hle]
      simp [TV.toV, AV.toV, LV.toV, ba_append]
    · rename_i v hx hy
      split at h
      · rename_i a1 a2 a3 hu; cases h
        rcases hp with ⟨rfl, hk⟩ | ⟨f, q, c, rfl, hk⟩
        · refine ⟨_, hk, fun w => vok rfl ?_⟩
          rw [rdL_sound hs hx, rdL_sound hs hy]
          exact (run_neq_func hu w _ (by simp) x y).1
        · refine ⟨_, hk, fun w => vok rfl ?_⟩
          rw [rdL_sound hs hx, rdL_sound hs hy]
          exact (run_neq_func hu w _ (by simp) x y).2 f q c
      · cases h
    · rename_i v hx hy
      split at h
      · rename_i a1 a2 a3 hu; cases h
        rcases hp with ⟨rfl, hk⟩ | ⟨f, q, c, rfl, hk⟩
        · refine ⟨_, hk, fun w => vok rfl ?_⟩
          rw [rdL_sound hs hx, rdL_sound hs hy]
          exact (run_neq_func hu w _ (by simp) x y).1
        · refine ⟨_, hk, fun w => vok rfl ?_⟩
          rw [rdL_sound hs hx, rdL_sound hs hy]
          exact (run_neq_func hu w _ (by simp) x y).2 f q c
      · cases h
    · cases h
  | build t' parts =>
    simp only [pu1] at h
    obtain ⟨l, hl, rfl⟩ := Option.map_eq_some_iff.1 h
    obtain ⟨hv, hk⟩ := okVals_iff.1 hp
    exact ⟨_, hk, fun w => vok rfl (buildW_sound hs hl hv w)⟩
  | _ => simp [pu1] at h

/-! ### loads -/
theorem run_loadCells (S : World → Prop) (b o : Nat) : ∀ (ks : List Kd) (i : Nat) (acc : List LV) (L : (k : Kd) → Nat → Nat → (Den k → Prop) → Prop) (k : List LV → Prop),
    (∀ kd b o K, L kd b o K → ∃ x : Den kd, (∀ w, S w → w.cell? ⟨b, o, none⟩ = some (LV.mk kd x).toV) ∧ K x) → lo1.go L b o ks i acc k →
    ∃ l : List LV, l.length = ks.length ∧ k (acc.reverse ++ l) ∧ ∀ w, S w → ∀ av : Array Value, (loadCellsFrom ⟨b, o, none⟩ i ks.length av).run P w = .ok (av ++ (l.map LV.toV).toArray) w
  | [], i, acc, L, k, _, h => ⟨[], rfl, by simpa [lo1.go] using h, fun w _ av => by simp [loadCellsFrom]⟩
  | kd :: ks, i, acc, L, k, hL, h => by
    simp only [lo1.go] at h
    obtain ⟨x, hx, h⟩ := hL _ _ _ _ h
    obtain ⟨l, hl, hk, hr⟩ := run_loadCells S b o ks (i + 1) (LV.mk kd x :: acc) L k hL h
    refine ⟨LV.mk kd x :: l, by simp [hl], by simpa using hk, fun w hw av => ?_⟩
    have h1 := hx w hw
    rw [addO_eq] at h1
    simp only [List.length_cons, loadCellsFrom]
    simp [Addr.add_none, h1, hr w hw]

theorem lo1_sound {e : Env} {a : Act} (hs : Sim e a) (S : World → Prop) {L : (k : Kd) → Nat → Nat → (Den k → Prop) → Prop}
    (hL : ∀ kd b o K, L kd b o K → ∃ x : Den kd, (∀ w, S w → w.cell? ⟨b, o, none⟩ = some (LV.mk kd x).toV) ∧ K x) {o : Oper} {k : TV → Prop} {p : Prop}
    (h : lo1 P e L o.op k = some p) (hp : p) : ∃ t, k t ∧ ∀ w, S w → (execOp a.eval o).run P w = .ok (.value t.toV) w := by
  obtain ⟨dst, op, ty, pos, after, guard⟩ := o
  simp only at h
  cases op with
  | load t x =>
    simp only [lo1] at h
    split at h
    · rename_i b o' hx
      split at h
      · rename_i kd hk; cases h
        obtain ⟨d, hd, ha⟩ := shT_leaf hk
        obtain ⟨y, hy, hky⟩ := hL _ _ _ _ hp
        refine ⟨_, hky, fun w hw => vok rfl ?_⟩
        rw [rdL_sound hs hx]
        simp [LV.toV, paV, Instr.loadAt, Instr.sureAddr, loadVar, run_isAgg hd, ha, hy w hw, TV.toV, AV.toV]
      · rename_i ks hk; cases h
        obtain ⟨d, hd, ha, hz⟩ := shT_agg hk
        obtain ⟨l, hl, hkl, hr⟩ := run_loadCells (P := P) S b o' ks 0 [] L _ hL hp
        refine ⟨_, hkl, fun w hw => vok rfl ?_⟩
        rw [rdL_sound hs hx]
        simp [LV.toV, paV, Instr.loadAt, Instr.sureAddr, loadVar, run_isAgg hd, ha, run_sizeOf hz, loadCells, hr w hw, TV.toV, AV.toV]
      · cases h
    · cases h
  | _ => simp [lo1] at h
end Go.Vw
