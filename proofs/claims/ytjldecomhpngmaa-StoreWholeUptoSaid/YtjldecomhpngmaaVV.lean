/- StoreWhole: names of blobs; the books. -/
import Derived.Test.YtjldecomhpngmaaVL
import Derived.Test.YtjldecomhpngmaaVM
import Derived.Test.YtjldecomhpngmaaVU
import Derived.Test.YtjldecomhpngmaaSW
import Derived.Laws.IdiomStrings
namespace Go.Proofs.Ytjldecomhpngmaa
open Go.Vw

def nm (k : Nat) : Str := [98, 108, 111, 98, 45, (97 + k).toUInt8]
theorem name_ok {k : Int} {j : Nat} (hk : k = (j : Int)) (hj : j < 4) {w : World} {K : Str → World → Prop} (hK : ∀ w', Mod F0 w w' → K (nm j) w') : callK Try.prog 21 [.leaf (.int .i64 k)] w (.one (.leaf .str)) K := by
  subst hk
  refine go_winnowlaw5_name _ _ _ ?_
  have hv : IntKind.wrap .u8 (w64 (97 + (j : Int))) = ((97 + j : Nat) : Int) := by
    rw [w64_in (by omega) (by omega)]
    have := wrap_u (k := .u8) rfl (n := 97 + j) (by show 97 + j < 2 ^ 8; omega)
    rw [← this]; congr 1
  unfold S_winnowlaw5_name
  rw [hv]
  refine (At.init w F0).alK fun b w1 _ hA _ => ?_
  have hb : Blk w1 b [LV.toV (.int .u8 ((97 + j : Nat) : Int))] := hA.own (b, _) (by simp)
  refine ⟨[.str [(97 + j).toUInt8]], w1, ?_, by show [98, 108, 111, 98, 45].length + 1 < 2 ^ 62; decide, hK w1 hA.mod⟩
  have hn : ((97 + j).toUInt8).toNat = 97 + j := by simp; omega
  have h := run_convert_bytes_back (P := Try.prog) w1 22 9 5 ⟨b, 0, none⟩ 1 [(97 + j).toUInt8] Try.underlying22 Try.underlying5 Try.underlying9 (fun i hi => by
    have : i = 0 := by simpa using hi
    subst this
    rw [Addr.add_none, hb.cell]
    show some (Value.int .u8 ((97 + j : Nat) : Int)) = some (Value.int .u8 (((97 + j).toUInt8.toNat : Nat) : Int))
    rw [hn])
  have hx : (LV.sl ⟨some (b, 0), 1, 1⟩).toV = .slice (some ⟨b, 0, none⟩) 1 1 := by simp only [LV.toV, slA_zero]
  rw [hx]
  unfold vS
  have h' : (convert 22 9 (.slice (some ⟨b, 0, none⟩) 1 1)).run Try.prog w1 = .ok (.string ⟨[(97 + j).toUInt8].toArray⟩) w1 := h
  simp only [Sem.run_bind, h', Result.andThen_ok, Sem.run_pure]
  rfl
theorem nm_good {j : Nat} (h : j < 4) : goodN (nm j) = true := by
  match j, h with
  | 0, _ => rfl
  | 1, _ => rfl
  | 2, _ => rfl
  | 3, _ => rfl
theorem nm_inj {i j : Nat} (hi : i < 4) (hj : j < 4) (h : nm i = nm j) : i = j := by
  match i, j, hi, hj with
  | 0, 0, _, _ => rfl
  | 1, 1, _, _ => rfl
  | 2, 2, _, _ => rfl
  | 3, 3, _, _ => rfl
  | 0, 1, _, _ => exact absurd h (by decide)
  | 0, 2, _, _ => exact absurd h (by decide)
  | 0, 3, _, _ => exact absurd h (by decide)
  | 1, 0, _, _ => exact absurd h (by decide)
  | 1, 2, _, _ => exact absurd h (by decide)
  | 1, 3, _, _ => exact absurd h (by decide)
  | 2, 0, _, _ => exact absurd h (by decide)
  | 2, 1, _, _ => exact absurd h (by decide)
  | 2, 3, _, _ => exact absurd h (by decide)
  | 3, 0, _, _ => exact absurd h (by decide)
  | 3, 1, _, _ => exact absurd h (by decide)
  | 3, 2, _, _ => exact absurd h (by decide)
def absB : List Bl → Nat → Abs
  | [], _ => []
  | b :: r, i => (nm i, b) :: absB r (i + 1)
theorem getA_absB : ∀ {l : List Bl} {i j : Nat} {b : Bl}, l[j]? = some b → i + l.length ≤ 4 → getA (nm (i + j)) (absB l i) = some b
  | [], i, j, b, h, _ => by simp at h
  | x :: l, i, 0, b, h, hl => by simp at h; subst h; simp [absB, getA]
  | x :: l, i, j + 1, b, h, hl => by
    have hj : j < l.length := by have := (List.getElem?_eq_some_iff.1 h).1; simpa using this
    simp only [List.length_cons] at hl
    rw [absB, getA, if_neg (fun e => by have := nm_inj (by omega) (by omega) e; omega)]
    have := getA_absB (i := i + 1) (j := j) (b := b) (by simpa using h) (by omega)
    rwa [show i + 1 + j = i + (j + 1) by omega] at this
theorem putA_absB : ∀ {l : List Bl} {i j : Nat} {b : Bl}, j < l.length → i + l.length ≤ 4 → putA (nm (i + j)) b (absB l i) = absB (l.set j b) i
  | [], i, j, b, h, _ => by simp at h
  | x :: l, i, 0, b, h, hl => by simp [absB, putA]
  | x :: l, i, j + 1, b, h, hl => by
    have hj : j < l.length := by simpa using h
    simp only [List.length_cons] at hl
    rw [absB, putA, if_neg (fun e => by have := nm_inj (by omega) (by omega) e; omega)]
    have := putA_absB (i := i + 1) (j := j) (b := b) hj (by omega)
    rw [show i + 1 + j = i + (j + 1) by omega] at this
    rw [this]; rfl
/-! what a call makes of one blob -/
def wantsB (b : Bl) (d : List Int) : Int × Bl := if b.out then (54, b) else if b.stopped then (55, b) else
  if b.stops = true ∧ b.stop < b.data.length + d.length then (55, { b with data := b.data ++ d.take (b.stop - b.data.length).toNat, stopped := true }) else (0, { b with data := b.data ++ d })
def stopB (b : Bl) (n : Int) : Int × Bl := if b.out then (54, b) else if b.stopped then (55, b) else (0, { b with stops := true, stop := mxI n 0 })
def publishB (b : Bl) : Int × Bl := if b.out then (54, b) else if b.stopped then (55, b) else if b.stops then (55, { b with stopped := true }) else (0, { b with out := true })
theorem set_same {α : Type} {l : List α} {j : Nat} {x : α} (h : l[j]? = some x) : l.set j x = l := set_self h
section
variable {l : List Bl} {j : Nat} {b : Bl}
theorem ask_B (h : l[j]? = some b) (hl : l.length = 4) : askA (nm j) (absB l 0) = (0, some b) := by
  have hj : j < 4 := by have := (List.getElem?_eq_some_iff.1 h).1; omega
  have := getA_absB (i := 0) h (by omega)
  rw [Nat.zero_add] at this
  unfold askA
  rw [nm_good hj, this]; rfl
theorem put_B (h : l[j]? = some b) (hl : l.length = 4) (b' : Bl) : putA (nm j) b' (absB l 0) = absB (l.set j b') 0 := by
  have := putA_absB (l := l) (i := 0) (j := j) (b := b') (List.getElem?_eq_some_iff.1 h).1 (by omega)
  rwa [Nat.zero_add] at this
theorem append_B (h : l[j]? = some b) (hl : l.length = 4) {d : List Int} (hd : b.data.length + d.length ≤ 268435456) : appendA (nm j) d (absB l 0) = ((wantsB b d).1, absB (l.set j (wantsB b d).2) 0) := by
  unfold appendA writeA wantsB
  rw [ask_B h hl]
  simp only
  by_cases ho : b.out = true
  · simp only [ho, if_true]; rw [set_same h]
  · by_cases hs : b.stopped = true
    · simp only [ho, hs, if_true, Bool.false_eq_true, if_false]; rw [set_same h]
    · simp only [ho, hs, Bool.false_eq_true, if_false]
      rw [if_neg (by omega)]
      split
      · rw [put_B h hl]
      · rw [put_B h hl]
theorem stop_B (h : l[j]? = some b) (hl : l.length = 4) (n : Int) : stopA (nm j) n (absB l 0) = ((stopB b n).1, absB (l.set j (stopB b n).2) 0) := by
  unfold stopA writeA stopB
  rw [ask_B h hl]
  simp only
  by_cases ho : b.out = true
  · simp only [ho, if_true]; rw [set_same h]
  · by_cases hs : b.stopped = true
    · simp only [ho, hs, if_true, Bool.false_eq_true, if_false]; rw [set_same h]
    · simp only [ho, hs, Bool.false_eq_true, if_false]
      rw [put_B h hl]
theorem publish_B (h : l[j]? = some b) (hl : l.length = 4) : publishA (nm j) (absB l 0) = ((publishB b).1, absB (l.set j (publishB b).2) 0) := by
  unfold publishA writeA publishB
  rw [ask_B h hl]
  simp only
  by_cases ho : b.out = true
  · simp only [ho, if_true]; rw [set_same h]
  · by_cases hs : b.stopped = true
    · simp only [ho, hs, if_true, Bool.false_eq_true, if_false]; rw [set_same h]
    · simp only [ho, hs, Bool.false_eq_true, if_false]
      split
      · rw [put_B h hl]
      · rw [put_B h hl]
theorem read_B (h : l[j]? = some b) (hl : l.length = 4) (t : Int × Int × Int) : ∃ t', readS (nm j) 0 ((b.data.length + 9 : Nat) : Int) (absB l 0) t = (if b.out then 0 else 53, if b.out then b.data else [], t') := by
  have hj : j < 4 := by have := (List.getElem?_eq_some_iff.1 h).1; omega
  unfold readS readA
  rw [nm_good hj, ask_B h hl, if_neg (by simp), if_neg (by omega)]
  simp only
  by_cases ho : b.out = true
  · simp only [ho, if_true]
    rw [if_neg (by omega)]
    have : (b.data.drop (0 : Int).toNat).take ((b.data.length + 9 : Nat) : Int).toNat = b.data := by
      rw [Int.toNat_natCast]; exact List.take_of_length_le (by simp)
    rw [this]
    exact ⟨_, rfl⟩
  · simp only [ho, Bool.false_eq_true, if_false]
    exact ⟨_, rfl⟩
end
/-! ### the books in memory -/
def EBk : Enc (Sl × Bl) := ⟨5, fun x => [(LV.sl x.1).toV, .bool x.2.out, .bool x.2.stopped, .bool x.2.stops, .int .i64 x.2.stop], fun _ => rfl, by decide, fun x v h => by simp at h; rcases h with rfl | rfl | rfl | rfl | rfl <;> rfl⟩
section
variable {w0 w : World} {m : List (Nat × List Value)} {s : Int} {g : SG}
theorem StA.apS {α : Type} {ro : BL} (h : StA w0 (m ++ ro) s g w) {E : Enc α} {t x : Sl} {l l2 : List α} (hv : VecL ro E t l) (hr : RdS w E x l2) {e : TypeId} {n bytes : Nat} {zs : List LV} (hn : n = E.n) (hz : zs.length = E.n) (hlim : (l.length + l2.length + 1024) * (bytes + 1) ≤ 2 ^ 46)
    {K : Sl → World → Prop} (hK : ∀ t' ro' w', StA w0 (m ++ ro') s g w' → VecL ro' E t' (l ++ l2) → Mod (Ks ro) w w' → K t' w') : ap w e n bytes zs t x K :=
  appL h.apart hv hr hn hz hlim fun t' ro' w' hA hv' hM _ => hK t' ro' w' (StA.sided hA (h.nm.keep hM (by
    rintro ⟨q, hq, e⟩; exact h.nm.far (e ▸ h.apart.own q (List.mem_append_right _ hq)))) h.old h.vec) hv' hM
end
structure BW (w0 : World) (mx : BL) (b4 : Nat) (xs : List (Sl × Bl)) (ros : List BL) (s : Int) (g : SG) (w : World) : Prop where
  st : StA w0 (mx ++ ((b4, EBk.cells xs) :: ros.flatten)) s g w
  n1 : xs.length = 4
  n2 : ros.length = 4
  vec : ∀ (k : Nat) x r, xs[k]? = some x → ros[k]? = some r → VecL r EU x.1 x.2.data
section
variable {w0 w : World} {mx : BL} {b4 : Nat} {xs : List (Sl × Bl)} {ros : List BL} {s : Int} {g : SG} {j : Nat} {x : Sl × Bl}
theorem BW.ldB (h : BW w0 mx b4 xs ros s g w) (hx : xs[j]? = some x) {i : Nat} {k : Kd} (y : Den k) (hi : i < 5) (hy : (EBk.f x)[i]? = some (LV.mk k y).toV) {K : Den k → Prop} (hK : K y) : Go.Vw.ld w k b4 ((0 + j * 5) + i) K := by
  refine h.st.ldM (b := b4) (c := EBk.cells xs) (by simp) y ?_ hK
  have := EBk.cells_get xs j i hi
  rw [hx] at this
  rw [Nat.zero_add]
  exact this.trans hy
theorem BW.ldDB (h : BW w0 mx b4 xs ros s g w) (hx : xs[j]? = some x) {D : Nat → Prop} {i : Nat} {k : Kd} (y : Den k) (hD : ¬ D b4) (hi : i < 5) (hy : (EBk.f x)[i]? = some (LV.mk k y).toV) {K : Den k → Prop} (hK : K y) : Go.Vw.ldD D w k b4 ((0 + j * 5) + i) K := by
  obtain ⟨z, hz, hk⟩ := h.ldB hx (K := fun z => K z) y hi hy hK
  exact ⟨z, hD, hz, hk⟩
theorem bwPerm (mx R : BL) (c : Nat × List Value) : (mx ++ (c :: R)).Perm ((mx ++ R) ++ [c]) := by
  rw [List.append_assoc]
  exact List.Perm.append_left _ (List.perm_append_singleton c R).symm
theorem BW.stB (h : BW w0 mx b4 xs ros s g w) (hx : xs[j]? = some x) {i : Nat} {vs : List LV} {y : Sl × Bl} (hi : i + vs.length ≤ 5) (hs : spl (EBk.f x) i (vs.map LV.toV) = EBk.f y) (h1 : y.1 = x.1) (h2 : y.2.data = x.2.data) {K : World → Prop}
    (hK : ∀ w', BW w0 mx b4 (xs.set j y) ros s g w' → Mod (fun k => k = b4) w w' → K w') : Go.Vw.st w b4 ((0 + j * 5) + i) vs K := by
  have hst := h.st.permM (bwPerm mx ros.flatten (b4, EBk.cells xs)).symm
  have hj : j < xs.length := (List.getElem?_eq_some_iff.1 hx).1
  have hset : spl (EBk.cells xs) ((0 + j * 5) + i) (vs.map LV.toV) = EBk.cells (xs.set j y) := by
    have := EBk.cells_set xs j i (vs.map LV.toV) x y [] hx (by rw [List.length_map]; exact hi) hs
    rw [List.append_nil, List.append_nil] at this
    rw [Nat.zero_add]; exact this
  have hlen : (EBk.cells xs).length = xs.length * 5 := EBk.cells_length xs
  refine hst.stS (by rw [hlen]; have : (j + 1) * 5 ≤ xs.length * 5 := Nat.mul_le_mul_right _ hj
                     omega) fun w' h' hM => hK w' ⟨?_, by simp [h.n1], h.n2, ?_⟩ hM
  · rw [hset] at h'
    exact h'.permM (bwPerm mx ros.flatten (b4, EBk.cells (xs.set j y)))
  · intro k z r hz hr
    rw [List.getElem?_set] at hz
    split at hz
    · rename_i e; subst e
      first | rw [if_pos hj] at hz | skip
      simp only [Option.some.injEq] at hz
      subst hz
      rw [h1, h2]; exact h.vec _ _ _ hx hr
    · exact h.vec _ _ _ hz hr
theorem partPerm {L : List BL} {j : Nat} {r : BL} (mx : BL) (c : Nat × List Value) (hr : L[j]? = some r) : ((mx ++ (c :: (L.eraseIdx j).flatten)) ++ r).Perm (mx ++ (c :: L.flatten)) := by
  have h := flatten_set_perm r hr
  rw [set_self hr] at h
  rw [List.append_assoc]
  refine List.Perm.append_left _ ?_
  rw [List.cons_append]
  exact List.Perm.cons _ h
/-- wants -/
theorem wants_ok (h : BW w0 mx b4 xs ros s g w) (hx : xs[j]? = some x) (hok : x.2.ok) {data : Sl} {d : List Int} (hd : ∀ w', StA w0 mx s g w' → RdS w' EU data d) (hdl : x.2.data.length + d.length ≤ 268435456) {K : Int → World → Prop}
    (hK : ∀ t ros' w', BW w0 mx b4 (xs.set j (t, (wantsB x.2 d).2)) ros' s g w' → Mod (fun k => k = b4 ∨ Ks ros.flatten k) w w' → K (wantsB x.2 d).1 w') :
    callK Try.prog 23 [.leaf (.ptr (some (b4, 0 + j * 5))), .leaf (.sl data)] w (.one (.leaf (.int .i64))) K := by
  refine go_winnowlaw5_Book_wants _ _ _ _ ?_
  have hj : j < xs.length := (List.getElem?_eq_some_iff.1 hx).1
  have hjr : j < ros.length := by rw [h.n2, ← h.n1]; exact hj
  have hr : ros[j]? = some ros[j] := List.getElem?_eq_getElem hjr
  have hv := h.vec j x _ hx hr
  generalize hrr : ros[j] = r at hr hv
  have hself : (x.1, x.2) = x := rfl
  refine dr_some (h.ldB hx (k := .bool) x.2.out (by decide) rfl (ifK_intro (fun ho => ?_) fun ho => ?_))
  · have e1 : wantsB x.2 d = (54, x.2) := by unfold wantsB; rw [if_pos ho]
    rw [e1] at hK
    exact hK x.1 ros w (by rw [hself, set_self hx]; exact h) (Mod.refl _ _)
  refine dr_some (h.ldB hx (k := .bool) x.2.stopped (by decide) rfl (ifK_intro (fun hs => ?_) fun hs => ?_))
  · have e1 : wantsB x.2 d = (55, x.2) := by unfold wantsB; rw [if_neg (by rw [ho]; simp), if_pos hs]
    rw [e1] at hK
    exact hK x.1 ros w (by rw [hself, set_self hx]; exact h) (Mod.refl _ _)
  have hsl : x.1.len = x.2.data.length := hv.1
  have ldS : ∀ {u : World} (hu : BW w0 mx b4 xs ros s g u) {K : Sl → Prop}, K x.1 → Go.Vw.ld u .sl b4 (0 + j * 5) K := fun hu _ hK => hu.ldB hx (i := 0) (k := .sl) x.1 (by decide) rfl hK
  have ldDS : ∀ {u : World} (hu : BW w0 mx b4 xs ros s g u) {D : Nat → Prop} {K : Sl → Prop}, ¬ D b4 → K x.1 → Go.Vw.ldD D u .sl b4 (0 + j * 5) K := fun hu _ _ hD hK => hu.ldDB hx (i := 0) (k := .sl) x.1 hD (by decide) rfl hK
  refine dr_some (ldS h ?_)
  have hdlen : data.len = d.length := (hd w (h.st.less (List.sublist_append_left _ _))).len
  have hsum : w64 ((x.1.len : Int) + (data.len : Int)) = ((x.2.data.length + d.length : Nat) : Int) := by rw [hsl, hdlen, w64_in (by omega) (by omega)]; omega
  rw [hsum, hsl]
  refine join1 (fun c u => u = w ∧ (c = true ↔ x.2.stops = true ∧ x.2.stop < ((x.2.data.length + d.length : Nat) : Int))) ?_ ?_
  · intro k hk
    refine dr_some (h.ldB hx (k := .bool) x.2.stops (by decide) rfl (ifK_intro (fun h2 => dr_some (h.ldB hx (k := .int .i64) x.2.stop (by decide) rfl (hk _ _ ⟨rfl, ?_⟩))) fun h2 => hk _ _ ⟨rfl, by simp [h2]⟩))
    rw [decide_eq_true_eq]; exact ⟨fun y => ⟨h2, y⟩, fun y => y.2⟩
  rintro c u ⟨rfl, hc⟩
  have hno : ¬ (x.2.out = true) := by rw [ho]; simp
  have hns : ¬ (x.2.stopped = true) := by rw [hs]; simp
  -- the bytes' row changes
  have apB : ∀ {u : World} (hu : BW w0 mx b4 xs ros s g u) {y : Sl} {d2 : List Int} (hry : RdS u EU y d2) (hl2 : x.2.data.length + d2.length ≤ 268435456) {K : Sl → World → Prop},
      (∀ (t : Sl) (ros' : List BL) (u' : World), StA w0 (mx ++ ((b4, EBk.cells xs) :: ros'.flatten)) s g u' → ros'.length = 4 → (∀ (k : Nat) z r, k ≠ j → xs[k]? = some z → ros'[k]? = some r → VecL r EU z.1 z.2.data) → (∀ r', ros'[j]? = some r' → VecL r' EU t (x.2.data ++ d2)) → Mod (Ks r) u u' → K t u') → ap u 5 1 1 [.int .u8 0] x.1 y K := by
    intro u hu y d2 hry hl2 K hK
    refine (hu.st.permM (partPerm mx (b4, EBk.cells xs) hr)).apS hv hry rfl rfl (by omega) fun t r' u' hst' hv' hM => hK t (ros.set j r') u' ?_ (by simp [h.n2]) ?_ ?_ hM
    · have hr' : (ros.set j r')[j]? = some r' := by rw [List.getElem?_set]; simp [hjr]
      have := partPerm mx (b4, EBk.cells xs) hr'
      have e : (ros.set j r').eraseIdx j = ros.eraseIdx j := by rw [List.eraseIdx_set_eq]
      rw [e] at this
      exact hst'.permM this.symm
    · intro k z r2 hne hz hr2
      rw [List.getElem?_set, if_neg (Ne.symm hne)] at hr2
      exact h.vec k z r2 hz hr2
    · intro r2 hr2
      rw [List.getElem?_set] at hr2
      simp [hjr] at hr2
      subst hr2; exact hv'
  -- a book's words are written behind that
  have stT : ∀ {ros' : List BL} {u : World} {t : Sl} {dd : List Int} (hst : StA w0 (mx ++ ((b4, EBk.cells xs) :: ros'.flatten)) s g u) (hn : ros'.length = 4) (ho : ∀ (k : Nat) z r, k ≠ j → xs[k]? = some z → ros'[k]? = some r → VecL r EU z.1 z.2.data) (hv : ∀ r', ros'[j]? = some r' → VecL r' EU t dd) {K : World → Prop},
      (∀ u', BW w0 mx b4 (xs.set j (t, { x.2 with data := dd })) ros' s g u' → Mod (fun k => k = b4) u u' → K u') → Go.Vw.st u b4 (0 + j * 5) [.sl t] K := by
    intro ros' u t dd hst hn ho' hv' K hK
    have hst2 := hst.permM (bwPerm mx ros'.flatten (b4, EBk.cells xs)).symm
    have hset : spl (EBk.cells xs) ((0 + j * 5) + 0) ([LV.sl t].map LV.toV) = EBk.cells (xs.set j (t, { x.2 with data := dd })) := by
      have := EBk.cells_set xs j 0 ([LV.sl t].map LV.toV) x (t, { x.2 with data := dd }) [] hx (by show 0 + 1 ≤ 5; omega) rfl
      rw [List.append_nil, List.append_nil] at this
      rw [Nat.zero_add]; exact this
    have hlen : (EBk.cells xs).length = xs.length * 5 := EBk.cells_length xs
    have hle : (j + 1) * 5 ≤ xs.length * 5 := Nat.mul_le_mul_right _ hj
    show Go.Vw.st u b4 ((0 + j * 5) + 0) [.sl t] K
    refine hst2.stS (by rw [hlen]; simp only [List.length_cons, List.length_nil]; omega) fun w' h' hM => hK w' ⟨?_, by simp [h.n1], hn, ?_⟩ hM
    · rw [hset] at h'
      exact h'.permM (bwPerm mx ros'.flatten _)
    · intro k z r2 hz hr2
      rw [List.getElem?_set] at hz
      split at hz
      · rename_i e; subst e
        first | rw [if_pos hj] at hz | skip
        simp only [Option.some.injEq] at hz
        subst hz
        exact hv' r2 hr2
      · rename_i e
        exact ho' k z r2 (Ne.symm e) hz hr2
  have hksr : ∀ k, Ks r k → Ks ros.flatten k := fun k hk => by
    obtain ⟨q, hq, e⟩ := hk
    exact ⟨q, List.mem_flatten.2 ⟨r, List.mem_of_getElem? hr, hq⟩, e⟩
  refine ifK_intro (fun h2 => ?_) fun h2 => ?_
  · obtain ⟨h3, h4⟩ := hc.1 h2
    have e1 : wantsB x.2 d = (55, { x.2 with data := x.2.data ++ d.take (x.2.stop - x.2.data.length).toNat, stopped := true }) := by
      unfold wantsB; rw [if_neg hno, if_neg hns, if_pos ⟨h3, by omega⟩]
    rw [e1] at hK
    have hlo := hok.lo
    have hhi := hok.hi
    refine dr_some (h.ldB hx (k := .int .i64) x.2.stop (by decide) rfl ?_)
    refine join0 (fun u' => ∃ t ros', BW w0 mx b4 (xs.set j (t, { x.2 with data := x.2.data ++ d.take (x.2.stop - x.2.data.length).toNat })) ros' s g u' ∧ Mod (fun k => k = b4 ∨ Ks ros.flatten k) u u') ?_ ?_
    · intro k24 hk24
      refine ifK_intro (fun h5 => ?_) fun h5 => ?_
      · have h5 : (x.2.data.length : Int) < x.2.stop := of_decide_eq_true h5
        have hud : BW w0 mx b4 xs ros s g u.drew := ⟨h.st.drew, h.n1, h.n2, h.vec⟩
        have hb4r : ¬ Ks r b4 := by
          have hA := (h.st.permM (partPerm mx (b4, EBk.cells xs) hr)).side
          exact hA.notKs (p := (b4, EBk.cells xs)) (by simp)
        refine ⟨Ks r, dr_some (ldDS hud hb4r (dr_some (hud.ldDB hx (k := .int .i64) x.2.stop hb4r (by decide) rfl ?_)))⟩
        have hw : w64 (x.2.stop - (x.2.data.length : Int)) = ((x.2.stop - x.2.data.length).toNat : Int) := by rw [w64_in (by omega) (by omega)]; omega
        rw [hw]
        have hrd := hd _ (hud.st.less (List.sublist_append_left _ _))
        generalize hq : (x.2.stop - x.2.data.length).toNat = q at *
        have hqd : q ≤ d.length := by omega
        refine hrd.slx hqd 1 ?_
        have hrd2 : RdS u.drew EU (data.cut 1 0 q data.cap) ((d.take q).drop 0) := RdS.cutR hrd (lo := 0) (hi := q) (mx := data.cap) (Nat.zero_le _) hqd (by have := hrd.has; have := hrd.len; omega)
        rw [List.drop_zero] at hrd2
        refine apB hud hrd2 (by simp; omega) fun t ros' u' hst' hn' ho' hv' hM' => ⟨hM', dr_some (stT hst' hn' ho' hv' fun u2 hu2 hM2 => hk24 _ ⟨t, ros', hu2, ?_⟩)⟩
        exact ((mod_drew u).trans hM' (fun _ _ h => h.elim) fun k _ hk => .inr (hksr k hk)).trans hM2 (fun _ _ h => h) fun _ _ hk => .inl hk
      · have h5 : ¬ (x.2.data.length : Int) < x.2.stop := of_decide_eq_false h5
        have hq : (x.2.stop - x.2.data.length).toNat = 0 := by omega
        refine hk24 _ ⟨x.1, ros, ?_, Mod.refl _ _⟩
        rw [hq, List.take_zero, List.append_nil]
        show BW w0 mx b4 (xs.set j x) ros s g u
        rw [set_self hx]; exact h
    · rintro u' ⟨t, ros', hu', hM⟩
      have hx' : (xs.set j (t, { x.2 with data := x.2.data ++ d.take (x.2.stop - x.2.data.length).toNat }))[j]? = some (t, { x.2 with data := x.2.data ++ d.take (x.2.stop - x.2.data.length).toNat }) := by rw [List.getElem?_set]; simp [hj]
      refine dr_some (hu'.stB hx' (i := 2) (vs := [.lit true]) (y := (t, { x.2 with data := x.2.data ++ d.take (x.2.stop - x.2.data.length).toNat, stopped := true })) (by decide) rfl rfl rfl fun u2 hu2 hM2 => ?_)
      rw [List.set_set] at hu2
      exact hK t ros' u2 hu2 (hM.trans hM2 (fun _ _ h => h) fun _ _ hk => .inl hk)
  · have hns2 : ¬ (x.2.stops = true ∧ x.2.stop < x.2.data.length + d.length) := fun y => by rw [hc.2 ⟨y.1, by have := y.2; omega⟩] at h2; cases h2
    have e1 : wantsB x.2 d = (0, { x.2 with data := x.2.data ++ d }) := by
      unfold wantsB; rw [if_neg hno, if_neg hns, if_neg hns2]
    rw [e1] at hK
    refine dr_some (ldS h ?_)
    refine apB h (hd _ (h.st.less (List.sublist_append_left _ _))) hdl fun t ros' u' hst' hn' ho' hv' hM' => dr_some (stT hst' hn' ho' hv' fun u2 hu2 hM2 => hK t ros' u2 hu2 ?_)
    exact (hM'.mono fun k _ hk => Or.inr (hksr k hk)).trans hM2 (fun _ _ h => h) fun _ _ hk => .inl hk
end
end Go.Proofs.Ytjldecomhpngmaa
