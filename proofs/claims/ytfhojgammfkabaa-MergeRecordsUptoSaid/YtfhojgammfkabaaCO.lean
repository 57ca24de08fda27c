/- The order of records; Compare, before. -/
import Derived.Test.YtfhojgammfkabaaCA
namespace Go.Proofs.Ytfhojgammfkabaa.Rc
open Go.Vw

abbrev sLt := Op.bytesLess
theorem sLt_irr : ∀ a, sLt a a = false
  | [] => rfl
  | a :: x => by simp [sLt, Op.bytesLess]; exact sLt_irr x
theorem sLt_cons (a b : UInt8) (x y : List UInt8) : sLt (a :: x) (b :: y) = (decide (a < b) || (a == b && sLt x y)) := rfl
theorem sLt_cons_t (a b : UInt8) (x y : List UInt8) : sLt (a :: x) (b :: y) = true ↔ a.toNat < b.toNat ∨ (a.toNat = b.toNat ∧ sLt x y = true) := by
  rw [sLt_cons]
  simp [UInt8.lt_iff_toNat_lt, ← UInt8.toNat_inj]
theorem sLt_trans : ∀ a b c, sLt a b = true → sLt b c = true → sLt a c = true
  | _, _, [], _, h => by cases ‹List UInt8› <;> simp [sLt, Op.bytesLess] at h
  | _, [], _ :: _, h, _ => by cases ‹List UInt8› <;> simp [sLt, Op.bytesLess] at h
  | [], _ :: _, _ :: _, _, _ => rfl
  | a :: x, b :: y, c :: z, h1, h2 => by
    rw [sLt_cons_t] at h1 h2 ⊢
    rcases h1 with h1 | ⟨h1, k1⟩ <;> rcases h2 with h2 | ⟨h2, k2⟩
    · exact .inl (by omega)
    · exact .inl (by omega)
    · exact .inl (by omega)
    · exact .inr ⟨by omega, sLt_trans x y z k1 k2⟩
theorem sLt_asym (a b : List UInt8) (h : sLt a b = true) : sLt b a = false := by
  cases k : sLt b a with
  | false => rfl
  | true => have := sLt_trans _ _ _ h k; rw [sLt_irr] at this; cases this
theorem sLt_tot : ∀ a b, sLt a b = false → sLt b a = false → a = b
  | [], [], _, _ => rfl
  | [], _ :: _, h, _ => by simp [sLt, Op.bytesLess] at h
  | _ :: _, [], _, h => by simp [sLt, Op.bytesLess] at h
  | a :: x, b :: y, h1, h2 => by
    have n1 : ¬ sLt (a :: x) (b :: y) = true := by rw [h1]; decide
    have n2 : ¬ sLt (b :: y) (a :: x) = true := by rw [h2]; decide
    rw [sLt_cons_t] at n1 n2
    have e : a.toNat = b.toNat := by omega
    have e' : a = b := UInt8.toNat_inj.1 e
    subst e'
    rw [sLt_tot x y (by cases k : sLt x y <;> simp_all) (by cases k : sLt y x <;> simp_all)]
/-- does a record come ahead of another one? -/
def bf (x y : Thing) : Bool := if x.1 ≠ y.1 then decide (x.1 < y.1) else sLt x.2.1 y.2.1
theorem bf_t {x y : Thing} : bf x y = true ↔ x.1 < y.1 ∨ (x.1 = y.1 ∧ sLt x.2.1 y.2.1 = true) := by
  unfold bf
  split
  · rename_i h
    simp [h]
  · rename_i h
    have h : x.1 = y.1 := by simpa using h
    simp [h]
theorem bf_irr (x : Thing) : bf x x = false := by unfold bf; simp [sLt_irr]
theorem bf_trans {x y z : Thing} (h1 : bf x y = true) (h2 : bf y z = true) : bf x z = true := by
  rw [bf_t] at *
  rcases h1 with h1 | ⟨h1, k1⟩ <;> rcases h2 with h2 | ⟨h2, k2⟩
  · exact .inl (by omega)
  · exact .inl (by omega)
  · exact .inl (by omega)
  · exact .inr ⟨by omega, sLt_trans _ _ _ k1 k2⟩
theorem bf_asym {x y : Thing} (h : bf x y = true) : bf y x = false := by
  cases k : bf y x with
  | false => rfl
  | true => have := bf_trans h k; rw [bf_irr] at this; cases this
theorem bf_ff {x y : Thing} (h1 : bf x y = false) (h2 : bf y x = false) : x.1 = y.1 ∧ x.2.1 = y.2.1 := by
  have n1 : ¬ bf x y = true := by rw [h1]; decide
  have n2 : ¬ bf y x = true := by rw [h2]; decide
  rw [bf_t] at n1 n2
  have e : x.1 = y.1 := by omega
  refine ⟨e, sLt_tot _ _ ?_ ?_⟩
  · cases k : sLt x.2.1 y.2.1 with
    | false => rfl
    | true => exact absurd (.inr ⟨e, k⟩) n1
  · cases k : sLt y.2.1 x.2.1 with
    | false => rfl
    | true => exact absurd (.inr ⟨e.symm, k⟩) n2
theorem bf_congr {x x' y y' : Thing} (h1 : x.1 = x'.1 ∧ x.2.1 = x'.2.1) (h2 : y.1 = y'.1 ∧ y.2.1 = y'.2.1) : bf x y = bf x' y' := by
  unfold bf; rw [h1.1, h1.2, h2.1, h2.2]
/-- not ahead, not ahead -/
theorem bf_nt {x y z : Thing} (h1 : bf x y = false) (h2 : bf y z = false) : bf x z = false := by
  cases k : bf x z with
  | false => rfl
  | true =>
    exfalso
    cases k1 : bf y x with
    | true => have := bf_trans k1 k; rw [h2] at this; cases this
    | false =>
      have := bf_congr (bf_ff h1 k1) (⟨rfl, rfl⟩ : z.1 = z.1 ∧ z.2.1 = z.2.1)
      rw [k, h2] at this; cases this
def cmpS (a b : List UInt8) : Int := if sLt a b then -1 else if sLt b a then 1 else 0
def cmpT (x y : Thing) : Int := if x.1 < y.1 then -1 else if y.1 < x.1 then 1 else cmpS x.2.1 y.2.1
theorem cmpT_bf (x y : Thing) : cmpT x y = if bf x y then -1 else if bf y x then 1 else 0 := by
  unfold cmpT cmpS
  by_cases h1 : x.1 < y.1
  · rw [if_pos h1, if_pos (bf_t.2 (.inl h1))]
  · rw [if_neg h1]
    by_cases h2 : y.1 < x.1
    · rw [if_pos h2, if_neg (by rw [bf_t]; omega), if_pos (bf_t.2 (.inl h2))]
    · rw [if_neg h2]
      have e : x.1 = y.1 := by omega
      unfold bf
      simp [e]
theorem cmpT_lt (x y : Thing) : decide (cmpT x y < 0) = bf x y := by
  rw [cmpT_bf]; cases bf x y <;> cases bf y x <;> rfl
theorem cmpT_eq (x y : Thing) : (cmpT x y == 0) = (!bf x y && !bf y x) := by
  rw [cmpT_bf]; cases bf x y <;> cases bf y x <;> rfl
theorem cmpS_cons (a b : UInt8) (x y : List UInt8) : cmpS (a :: x) (b :: y) = if a.toNat < b.toNat then -1 else if b.toNat < a.toNat then 1 else cmpS x y := by
  unfold cmpS
  by_cases h1 : a.toNat < b.toNat
  · rw [if_pos ((sLt_cons_t ..).2 (.inl h1)), if_pos h1]
  · rw [if_neg h1]
    by_cases h2 : b.toNat < a.toNat
    · rw [if_pos h2, if_neg (by rw [sLt_cons_t]; omega), if_pos ((sLt_cons_t ..).2 (.inl h2))]
    · rw [if_neg h2]
      have e : a.toNat = b.toNat := by omega
      have e1 : sLt (a :: x) (b :: y) = sLt x y := by
        rw [sLt_cons, UInt8.toNat_inj.1 e]; simp
      have e2 : sLt (b :: y) (a :: x) = sLt y x := by
        rw [sLt_cons, UInt8.toNat_inj.1 e]; simp
      rw [e1, e2]
theorem compareS_ok {w : World} {a b : List UInt8} (ha : a.length ≤ 4611686018427387904) {K : Int → World → Prop} (hK : ∀ w', Mod (fun _ => False) w w' → K (cmpS a b) w') :
    callK Try.prog 58 [.leaf (.str a), .leaf (.str b)] w (.one (.leaf (.int .i64))) K := by
  refine go_nums_Compare _ _ _ _ ?_
  unfold S_nums_Compare
  have hmin : mnI (a.length : Int) (b.length : Int) = ((min a.length b.length : Nat) : Int) := by unfold mnI; split <;> omega
  rw [hmin]
  refine join0 (fun w' => Mod (fun _ => False) w w' ∧ cmpS a b = cmpS (a.drop (min a.length b.length)) (b.drop (min a.length b.length))) (fun k hk => ?_) ?_
  · refine loop1 (k := .int .i64) (fun x w' => ∃ i : Nat, x = i ∧ i ≤ min a.length b.length ∧ Mod (fun _ => False) w w' ∧ cmpS a b = cmpS (a.drop i) (b.drop i)) (fun x _ => min a.length b.length - x.toNat) rfl ⟨0, rfl, by omega, Mod.refl _ _, rfl⟩ ?_
    rintro x w1 ⟨i, rfl, hi, M1, he⟩
    refine ifK_intro (fun hlt => ?_) (fun hlt => ?_)
    · have hlt' : i < min a.length b.length := Int.ofNat_lt.1 (of_decide_eq_true hlt)
      have hia : i < a.length := by omega
      have hib : i < b.length := by omega
      have M2 : Mod (fun _ => False) w w1.drew := M1.trans (Mod.drew _ _) (fun _ _ h => h) (fun _ _ h => h)
      have M3 : Mod (fun _ => False) w w1.drew.drew := M2.trans (Mod.drew _ _) (fun _ _ h => h) (fun _ _ h => h)
      have e := he
      rw [List.drop_eq_getElem_cons hia, List.drop_eq_getElem_cons hib, cmpS_cons] at e
      have sa : ∀ {K : Int → Prop}, K (a[i].toNat : Int) → sx a (i : Int) K := fun h => ⟨a[i], by simp, by omega, h⟩
      have sb : ∀ {K : Int → Prop}, K (b[i].toNat : Int) → sx b (i : Int) K := fun h => ⟨b[i], by simp, by omega, h⟩
      refine ⟨fun _ => False, sa (sb (ifK_intro (fun h => ?_) fun h => ?_))⟩
      · have := hK _ M2
        rw [e, if_pos (by simpa using h)] at this; exact this
      · have h : ¬ a[i].toNat < b[i].toNat := by simpa using h
        rw [if_neg h] at e
        refine ⟨fun _ => False, sa (sb (ifK_intro (fun h => ?_) fun h => ?_))⟩
        · have := hK _ M3
          rw [e, if_pos (by simpa using h)] at this; exact this
        · have h : ¬ b[i].toNat < a[i].toNat := by simpa using h
          rw [if_neg h] at e
          have hw : w64 ((i : Int) + 1) = ((i + 1 : Nat) : Int) := by rw [w64_in (by omega) (by omega)]; omega
          rw [hw]
          exact ⟨⟨i + 1, rfl, by omega, M3, e⟩, by simp; omega⟩
    · have hge : i = min a.length b.length := Nat.le_antisymm hi (Nat.not_lt.1 fun h => of_decide_eq_false hlt (Int.ofNat_lt.2 h))
      subst hge
      exact hk _ ⟨M1, he⟩
  · rintro w1 ⟨M1, he⟩
    have hk := hK w1 M1
    rw [he] at hk
    refine ifK_intro (fun h => ?_) (fun h => ?_)
    · have h : a.length < b.length := by simpa using h
      rw [List.drop_eq_nil_of_le (by omega : a.length ≤ _), List.drop_eq_getElem_cons (by omega : min a.length b.length < b.length)] at hk
      exact hk
    · have h : ¬ a.length < b.length := by simpa using h
      refine ifK_intro (fun h' => ?_) (fun h' => ?_)
      · have h' : b.length < a.length := by simpa using h'
        rw [List.drop_eq_nil_of_le (by omega : b.length ≤ _), List.drop_eq_getElem_cons (by omega : min a.length b.length < a.length)] at hk
        exact hk
      · have h' : ¬ b.length < a.length := by simpa using h'
        rw [List.drop_eq_nil_of_le (by omega : b.length ≤ _), List.drop_eq_nil_of_le (by omega : a.length ≤ _)] at hk
        exact hk
theorem callV_func {f : FuncId} {a c : Array Value} {args : List AV} {w : World} {rt : RT} {K : Go.Vw.Fn rt.kds (World → Prop)} (hf : callable Try.prog f = true) (args' : List AV) (ha : a ++ (args.map AV.toV).toArray ++ c = (args'.map AV.toV).toArray)
    (h : callK Try.prog f args' w rt K) : callV Try.prog (.func (.func f) a c) args w rt K := .inl ⟨f, a, c, rfl, hf, by rw [ha]; exact h⟩
theorem compare_ok : CmpOk (.func (.func 52) #[] #[]) cmpT := by
  intro x y hgx hgy w K hK
  refine callV_func (CS_ok 52 rfl) [.agg [.int .i64 x.1, .str x.2.1, .str x.2.2], .agg [.int .i64 y.1, .str y.2.1, .str y.2.2]] (by rfl) ?_
  refine go_sortbuf_Compare _ _ _ _ _ _ _ _ ?_
  unfold S_sortbuf_Compare
  refine (At.init w fun _ => False).alK fun b5 w1 _ h1 M1 => h1.alK fun b7 w2 _ h2 M2 => ?_
  have hM := M1.trans M2 (fun _ _ h => h) (fun _ _ h => h)
  have h2 : At w (fun _ => False) [(b5, recC x), (b7, recC y)] w2 := h2
  refine h2.ld 0 (k := .int .i64) x.1 rfl rfl (h2.ld 1 (k := .int .i64) y.1 rfl rfl ?_)
  refine ifK_intro (fun h => ?_) (fun h => ?_)
  · have hk := hK w2 hM
    unfold cmpT at hk
    rw [if_pos (by simpa using h)] at hk; exact hk
  · refine h2.ld 0 (k := .int .i64) x.1 rfl rfl (h2.ld 1 (k := .int .i64) y.1 rfl rfl ?_)
    refine ifK_intro (fun h' => ?_) (fun h' => ?_)
    · have hk := hK w2 hM
      unfold cmpT at hk
      rw [if_neg (by simpa using h), if_pos (by simpa using h')] at hk; exact hk
    · refine h2.ld 0 (k := .str) x.2.1 rfl rfl (h2.ld 1 (k := .str) y.2.1 rfl rfl ?_)
      refine compareS_ok hgx fun w3 M3 => ?_
      have hk := hK w3 (hM.trans M3 (fun _ _ h => h) (fun _ _ h => h))
      unfold cmpT at hk
      rw [if_neg (by simpa using h), if_neg (by simpa using h')] at hk; exact hk
theorem before_ok {x y : Thing} {w : World} {K : Bool → World → Prop} (hK : ∀ w', Mod (fun _ => False) w w' → K (bf x y) w') :
    callK Try.prog 55 [.agg [.int .i64 x.1, .str x.2.1, .str x.2.2], .agg [.int .i64 y.1, .str y.2.1, .str y.2.2]] w (.one (.leaf .bool)) K := by
  refine go_winnowref11_before _ _ _ _ _ _ _ _ ?_
  unfold S_winnowref11_before
  refine (At.init w fun _ => False).alK fun b5 w1 _ h1 M1 => h1.alK fun b7 w2 _ h2 M2 => ?_
  have hM := M1.trans M2 (fun _ _ h => h) (fun _ _ h => h)
  have h2 : At w (fun _ => False) [(b5, recC x), (b7, recC y)] w2 := h2
  have hk := hK w2 hM
  unfold bf at hk
  refine h2.ld 0 (k := .int .i64) x.1 rfl rfl (h2.ld 1 (k := .int .i64) y.1 rfl rfl ?_)
  refine ifK_intro (fun h => ?_) (fun h => ?_)
  · rw [if_pos (by simpa using h)] at hk
    exact h2.ld 0 (k := .int .i64) x.1 rfl rfl (h2.ld 1 (k := .int .i64) y.1 rfl rfl hk)
  · rw [if_neg (by simpa using h)] at hk
    exact h2.ld 0 (k := .str) x.2.1 rfl rfl (h2.ld 1 (k := .str) y.2.1 rfl rfl hk)
end Go.Proofs.Ytfhojgammfkabaa.Rc
