/- The typed reading is sound, eighth part: the plan of a region whose order is open. -/
import Derived.Test.YtfhojgammfkabaaW8
namespace Go.Vw
variable {P : Program}

theorem left_zero : ∀ (l : List Bool), l.all id = true → left l = 0 ∧ ∀ n, n < l.length → bnth l n = true
  | [], _ => ⟨rfl, fun n h => by simp at h⟩
  | x :: l, h => by
    simp only [List.all_cons, Bool.and_eq_true, id] at h
    obtain ⟨h1, h2⟩ := left_zero l (by simpa using h.2)
    obtain ⟨h0, _⟩ := h
    subst h0
    exact ⟨by simpa [left] using h1, fun n hn => by
      cases n with
      | zero => rfl
      | succ n => exact h2 n (by simpa using hn)⟩
theorem dst_mem {l : List Oper} {i : Nat} {o : Oper} (h : l[i]? = some o) : ∀ x, o.dst = some x → x ∈ dstsO l := by
  induction l generalizing i with
  | nil => simp at h
  | cons y l ih =>
    intro x hx
    unfold dstsO
    cases i with
    | zero => simp at h; subst h; rw [hx]; exact List.mem_cons_self
    | succ i =>
      have := ih (i := i) (by simpa using h) x hx
      cases y.dst with
      | none => exact this
      | some d => exact List.mem_cons_of_mem _ this
theorem Mod.refl (D : Nat → Prop) (w : World) : Mod D w w := ⟨rfl, rfl, rfl, Nat.le_refl _, fun _ _ _ => rfl⟩

theorem dRun_sound {cs : List Nat} (hcs : ∀ f, cs.contains f = true → callable P f = true) {ops : Array Oper} {Q : Exit → Act → World → Prop} {r : Option Nat} (hp : pairsOk ops.toList 0 ops.toList = true)
    (hnd : ∀ o ∈ ops.toList, (!isSelect o.op && !isDefer o.op) = true) {D : Nat → Prop} {w0 : World} :
    ∀ (pl : Pl) (ls : List Bool) (e : Env) (a : Act) (w : World) (k : Env → World → Prop), Sim e a → ls.length = ops.size → Mod D w0 w → dRun P cs ops.toList D w0 pl ls e w k →
      (∀ e' a' w', k e' w' → Sim e' a' → Stp (dstsO ops.toList) false false e e' a a' → Q .normal a' w') → anyS P r ops Q (Mod D w0) (left ls) ls.toArray a w := by
  have hnd' : ∀ (j : Nat) o, ops[j]? = some o → (∀ c, o.op ≠ .defer c) ∧ ∀ cs b, o.op ≠ .select cs b := fun j o ho => by
    have := hnd o (by rw [← Array.getElem?_toList] at ho; exact List.mem_of_getElem? ho)
    constructor
    · intro c hc; simp [hc, isDefer] at this
    · intro c b hc; simp [hc, isSelect] at this
  have hpair : ∀ i oi, ops[i]? = some oi → ∀ j oj, ops[j]? = some oj → j ≠ i → (∃ e ∈ oj.after, Region.binds .any e = true ∧ e.on = i) ∨ (∃ e ∈ oi.after, Region.binds .any e = true ∧ e.on = j) ∨ oi.apart ops oj = true := fun i oi hi j oj hj hne => by
    have := pairs_spec ops.toList 0 hp (fun j => by rw [Nat.zero_add]) i oi j oj (by rw [Array.getElem?_toList]; exact hi) (by rw [Array.getElem?_toList]; exact hj) (by simpa using hne)
    rw [Nat.zero_add] at this
    rcases this with h | h | h
    · exact .inl (waitsB_spec h)
    · exact .inr (.inl (waitsB_spec h))
    · exact .inr (.inr h)
  intro pl
  -- one operation that has an effect, and what follows
  have eff : ∀ (i : Nat) (ls : List Bool) (e : Env) (a : Act) (w : World) (K : List Bool → Env → World → Prop), Sim e a → ls.length = ops.size → Mod D w0 w → bnth ls i = false → i < ls.length → effW P cs ops.toList D w0 ls e w i K →
      (∀ e' a' w', Mod D w0 w' → K (bset ls i) e' w' → Sim e' a' → Stp (dstsO ops.toList) false false e e' a a' → anyS P r ops Q (Mod D w0) (left (bset ls i)) (bset ls i).toArray a' w') →
      wpOpIn (FW r) 0 P ops (onlyN Q) i (fun a' w' => Mod D w0 w' ∧ anyS P r ops Q (Mod D w0) (left (bset ls i)) (ls.toArray.setIfInBounds i true) a' w') a w := by
    intro i ls e a w K hs hl hS hb hlt h hK
    unfold effW at h
    rw [nth_getElem?, Array.getElem?_toList] at h
    cases ho : ops[i]? with
    | none => simp [ho] at h
    | some o =>
      simp only [ho] at h
      have hd := dst_mem (l := ops.toList) (i := i) (o := o) (by rw [Array.getElem?_toList]; exact ho)
      unfold wpOpIn
      simp only [ho]
      rw [← bset_set]
      split at h
      · rename_i hw
        rw [if_pos (wantW_spec hs hw)]
        split at h
        · rename_i p hp
          refine ef1_sound hcs hs hp h fun t w' hk => ⟨hk.1, ?_⟩
          exact hK _ _ _ hk.1 hk.2 (hs.put o.dst t) (stp_put hd)
        · exact h.elim
      · rename_i hw
        rw [if_neg (by rw [wantW_spec hs hw]; simp)]
        exact ⟨fun _ _ => trivial, hS, hK _ _ _ hS h (hs.putO o.dst) (stp_putO hd)⟩
      · exact h.elim
  induction pl with
  | done =>
    intro ls e a w k hs hl hS h hQ
    simp only [dRun] at h
    split at h
    · rename_i hall
      obtain ⟨h0, h1⟩ := left_zero ls hall
      rw [h0]
      refine ⟨?_, hQ e a w h hs (Stp.refl _ _ _ _ _)⟩
      cases hr : Region.ready .any ops ls.toArray with
      | nil => rfl
      | cons j l =>
        have hj : j ∈ Region.ready .any ops ls.toArray := by rw [hr]; exact List.mem_cons_self
        obtain ⟨hj0, o, ho, _⟩ := mem_ready.1 hj
        have hlt : j < ls.length := by rw [hl]; exact (Array.getElem?_eq_some_iff.1 ho).1
        have h2 := h1 j hlt
        rw [← bnth_getD] at h2
        simp only [Array.getD_eq_getD_getElem?, List.getElem?_toArray, List.getElem?_eq_getElem hlt, Option.getD_some] at h2 hj0
        rw [h2] at hj0; cases hj0
    · exact h.elim
  | take i pl ih =>
    intro ls e a w k hs hl hS h hQ
    simp only [dRun] at h
    split at h
    · rename_i hr
      obtain ⟨hr1, hr2, hr3⟩ := rdyB_ready hl hr
      rw [left_bset ls i hr2 hr3]
      rw [nth_getElem?, Array.getElem?_toList] at h
      cases ho : ops[i]? with
      | none => simp [ho] at h
      | some o =>
        simp only [ho] at h
        have hd := dst_mem (l := ops.toList) (i := i) (o := o) (by rw [Array.getElem?_toList]; exact ho)
        have go : ∀ (e1 : Env) (v : Value), Sim e1 (a.put o.dst v) → Stp (dstsO ops.toList) false false e e1 a (a.put o.dst v) → YieldsIf P ops (Mod D w0) o v a → dRun P cs ops.toList D w0 pl (bset ls i) e1 w k → anyS P r ops Q (Mod D w0) (left (bset ls i) + 1) ls.toArray a w :=
          fun e1 v h1 st hy hd1 => anyS_take ho hnd' (hpair i o ho) _ _ _ _ hr1 hy hS (by
            rw [← bset_set]
            exact ih _ _ _ _ k h1 (by rw [bset_length]; exact hl) hS hd1 fun e' a' w' hk hs' st' => hQ e' a' w' hk hs' (st.trans st' (fun _ h => h) (fun _ h => h) (fun _ => ⟨rfl, rfl⟩) (fun _ => ⟨rfl, rfl⟩)))
        split at h
        · rename_i hw
          obtain ⟨t, hk, hrun⟩ := takeW_sound hs h
          exact go _ _ (hs.put o.dst t) (stp_put hd) (.inl ⟨wantW_spec hs hw, fun u hu => hrun u hu.block⟩) hk
        · rename_i hw
          exact go _ _ (hs.putO o.dst) (stp_putO hd) (.inr ⟨wantW_spec hs hw, rfl⟩) h
        · exact h.elim
    · exact h.elim
  | now i pl ih =>
    intro ls e a w k hs hl hS h hQ
    simp only [dRun] at h
    split at h
    · rename_i hr
      simp only [Bool.and_eq_true] at hr
      obtain ⟨hr1, hr2, hr3⟩ := rdyB_ready hl hr.1
      rw [left_bset ls i hr2 hr3]
      refine ⟨fun h0 => (by rw [h0] at hr1; cases hr1), fun j hj => ?_⟩
      have hji : j = i := by simpa using only_mem hl hr.2 j hj
      subst hji
      rw [nth_getElem?, Array.getElem?_toList] at h
      cases ho : ops[j]? with
      | none => simp [ho] at h
      | some o =>
        simp only [ho] at h
        have hd := dst_mem (l := ops.toList) (i := j) (o := o) (by rw [Array.getElem?_toList]; exact ho)
        unfold wpOpIn
        simp only [ho]
        rw [← bset_set]
        split at h
        · rename_i hw
          obtain ⟨t, hk, hrun⟩ := nowW_sound hs h
          rw [if_pos (wantW_spec hs hw)]
          exact wpIn_value (hnd' _ _ ho).1 hrun ⟨hS, ih _ _ _ _ k (hs.put o.dst t) (by rw [bset_length]; exact hl) hS hk fun e' a' w' hk hs' st' => hQ e' a' w' hk hs' ((stp_put hd).trans st' (fun _ h => h) (fun _ h => h) (fun _ => ⟨rfl, rfl⟩) (fun _ => ⟨rfl, rfl⟩))⟩
        · rename_i hw
          rw [if_neg (by rw [wantW_spec hs hw]; simp)]
          exact ⟨fun _ _ => trivial, hS, ih _ _ _ _ k (hs.putO o.dst) (by rw [bset_length]; exact hl) hS h fun e' a' w' hk hs' st' => hQ e' a' w' hk hs' ((stp_putO hd).trans st' (fun _ h => h) (fun _ h => h) (fun _ => ⟨rfl, rfl⟩) (fun _ => ⟨rfl, rfl⟩))⟩
        · exact h.elim
    · exact h.elim
  | eff i pl ih =>
    intro ls e a w k hs hl hS h hQ
    simp only [dRun] at h
    split at h
    · rename_i hr
      simp only [Bool.and_eq_true] at hr
      obtain ⟨hr1, hr2, hr3⟩ := rdyB_ready hl hr.1
      rw [left_bset ls i hr2 hr3]
      refine ⟨fun h0 => (by rw [h0] at hr1; cases hr1), fun j hj => ?_⟩
      have hji : j = i := by simpa using only_mem hl hr.2 j hj
      subst hji
      exact eff j ls e a w _ hs hl hS hr2 hr3 h fun e' a' w' hS' hk hs' st => ih _ _ _ _ k hs' (by rw [bset_length]; exact hl) hS' hk fun e2 a2 w2 hk2 hs2 st2 => hQ e2 a2 w2 hk2 hs2 (st.trans st2 (fun _ h => h) (fun _ h => h) (fun _ => ⟨rfl, rfl⟩) (fun _ => ⟨rfl, rfl⟩))
    · exact h.elim
  | two i pl j pl2 ih1 ih2 =>
    intro ls e a w k hs hl hS h hQ
    simp only [dRun] at h
    split at h
    · rename_i hr
      simp only [Bool.and_eq_true] at hr
      obtain ⟨hr1, hr2, hr3⟩ := rdyB_ready hl hr.1
      obtain ⟨hA, hB⟩ := h
      rw [left_bset ls i hr2 hr3]
      refine ⟨fun h0 => (by rw [h0] at hr1; cases hr1), fun m hm => ?_⟩
      have hmm : m = i ∨ m = j := by simpa using only_mem hl hr.2 m hm
      by_cases hmi : m = i
      · subst hmi
        exact eff m ls e a w _ hs hl hS hr2 hr3 hA fun e' a' w' hS' hk hs' st => ih1 _ _ _ _ k hs' (by rw [bset_length]; exact hl) hS' hk fun e2 a2 w2 hk2 hs2 st2 => hQ e2 a2 w2 hk2 hs2 (st.trans st2 (fun _ h => h) (fun _ h => h) (fun _ => ⟨rfl, rfl⟩) (fun _ => ⟨rfl, rfl⟩))
      · have hmj : m = j := by rcases hmm with h | h
                               · exact absurd h hmi
                               · exact h
        subst hmj
        obtain ⟨hj0, o, ho, _⟩ := mem_ready.1 hm
        have hlt : m < ls.length := by rw [hl]; exact (Array.getElem?_eq_some_iff.1 ho).1
        have hbm : bnth ls m = false := by
          rw [← bnth_getD]
          simp only [Array.getD_eq_getD_getElem?, List.getElem?_toArray, List.getElem?_eq_getElem hlt, Option.getD_some] at hj0 ⊢
          exact hj0
        have hcnt : left (bset ls i) = left (bset ls m) := by
          have h1 := left_bset ls i hr2 hr3; have h2 := left_bset ls m hbm hlt; omega
        rw [hcnt]
        exact eff m ls e a w _ hs hl hS hbm hlt hB fun e' a' w' hS' hk hs' st => ih2 _ _ _ _ k hs' (by rw [bset_length]; exact hl) hS' hk fun e2 a2 w2 hk2 hs2 st2 => hQ e2 a2 w2 hk2 hs2 (st.trans st2 (fun _ h => h) (fun _ h => h) (fun _ => ⟨rfl, rfl⟩) (fun _ => ⟨rfl, rfl⟩))
    · exact h.elim
  | split i p q ih1 ih2 =>
    intro ls e a w k hs hl hS h hQ
    simp only [dRun] at h
    split at h
    · rename_i d hd
      split at h
      · rename_i x hx
        obtain ⟨ht, hf⟩ := h
        cases x with
        | true => exact ih1 _ _ _ _ k (hs.retell (t := .one (.leaf (.lit true))) hx rfl) hl hS (ht rfl) fun e2 a2 w2 hk2 hs2 st2 => hQ e2 a2 w2 hk2 hs2 ((stp_eset _ _ _ _ [] false false).trans st2 (by simp) (fun _ h => h) (fun _ => ⟨rfl, rfl⟩) (fun _ => ⟨rfl, rfl⟩))
        | false => exact ih2 _ _ _ _ k (hs.retell (t := .one (.leaf (.lit false))) hx rfl) hl hS (hf rfl) fun e2 a2 w2 hk2 hs2 st2 => hQ e2 a2 w2 hk2 hs2 ((stp_eset _ _ _ _ [] false false).trans st2 (by simp) (fun _ h => h) (fun _ => ⟨rfl, rfl⟩) (fun _ => ⟨rfl, rfl⟩))
      · exact h.elim
    · exact h.elim

theorem draw_sound {cs : List Nat} (hcs : ∀ f, cs.contains f = true → callable P f = true) (hm : P.follows .mixedOrders = true) {ops : Array Oper} {Q : Exit → Act → World → Prop} {r : Option Nat} {id : Nat}
    (hp : pairsOk ops.toList 0 ops.toList = true) (hnd : ops.toList.all (fun o => !isSelect o.op && !isDefer o.op) = true) {pl : Pl} {e : Env} {a : Act} {w : World} {k : Env → World → Prop} (hs : Sim e a)
    (h : drawK w fun D w => dRun P cs ops.toList D w pl (ops.toList.map fun _ => false) e w k) (hQ : ∀ e' a' w', k e' w' → Sim e' a' → Stp (dstsO ops.toList) false false e e' a a' → Q .normal a' w') : (Code.region id ops true).wpIn (FW r) 0 P Q a w := by
  obtain ⟨D, h⟩ := h
  have := dRun_sound (r := r) (Q := Q) hcs hp (List.all_eq_true.1 hnd) pl _ e a w.drew k hs (by simp) (Mod.refl D _) h hQ
  have hl : left (ops.toList.map fun _ => false) = ops.size := by
    rw [← Array.length_toList]
    generalize ops.toList = l
    induction l with
    | nil => rfl
    | cons x l ih => simp [left, ih]
  have ha : (ops.toList.map fun _ => false).toArray = Array.replicate ops.size false := by
    apply Array.ext'
    simp [List.map_const']
  rw [hl, ha] at this
  refine wpIn_mono (wpIn_region_any hm (anyS_any _ _ _ _ this)) fun x a' w' hx => ?_
  cases x <;> first | exact hx | exact hx.elim
end Go.Vw
