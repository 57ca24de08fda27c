/- The typed reading is sound, seventh part: a region whose order is open. -/
import Derived.Test.YtfhojgammfkabaaW7
namespace Go.Vw
variable {P : Program}

/-- only the normal end -/
def onlyN (Q : Exit → Act → World → Prop) : Exit → Act → World → Prop
  | .normal, a, w => Q .normal a w
  | _, _, _ => False

section
variable {ops : Array Oper} {Q : Exit → Act → World → Prop} {S : World → Prop} {r : Option Nat}

/-- whatever comes next, and S holds behind it -/
def anyS (P : Program) (r : Option Nat) (ops : Array Oper) (Q : Exit → Act → World → Prop) (S : World → Prop) : Nat → Array Bool → Act → World → Prop
  | 0, ls, a, w => Region.ready .any ops ls = [] ∧ Q .normal a w
  | n + 1, ls, a, w => (Region.ready .any ops ls = [] → Q .normal a w) ∧
      ∀ i ∈ Region.ready .any ops ls, wpOpIn (FW r) 0 P ops (onlyN Q) i (fun a' w' => S w' ∧ anyS P r ops Q S n (ls.setIfInBounds i true) a' w') a w
theorem anyS_any : ∀ (n : Nat) (ls : Array Bool) (a : Act) (w : World), anyS P r ops Q S n ls a w → wpAnyIn (FW r) 0 P .any ops (onlyN Q) n ls a w
  | 0, _, _, _, h => h
  | n + 1, _, _, _, h => ⟨h.1, fun i hi => wpOpIn_mono (fun a' w' h' => anyS_any n _ a' w' h'.2) (h.2 i hi)⟩

theorem yields_op {i : Nat} {o : Oper} {v : Value} {a : Act} {w : World} (hi : ops[i]? = some o) (hnd : ∀ c, o.op ≠ .defer c) (hy : YieldsIf P ops S o v a) (hS : S w) {K : Act → World → Prop} (hK : K (a.put o.dst v) w) :
    wpOpIn (FW r) 0 P ops (onlyN Q) i K a w := by
  unfold wpOpIn
  simp only [hi]
  rcases hy with ⟨hw, hr⟩ | ⟨hw, rfl⟩
  · rw [if_pos hw]; exact wpIn_value hnd (hr w hS) hK
  · rw [if_neg (by simp [hw])]; exact ⟨fun _ _ => trivial, hK⟩

/-- an operation that is apart from 'oi' does not mind whether oi's value is told already -/
theorem op_put {j : Nat} {oi oj : Oper} {v : Value} (hj : ops[j]? = some oj) (hap : oi.apart ops oj = true) (hsi : ∀ cs b, oi.op ≠ .select cs b) (hsj : ∀ cs b, oj.op ≠ .select cs b) (hdj : ∀ c, oj.op ≠ .defer c)
    {K : Act → World → Prop} {a : Act} {w : World} (hy : YieldsIf P ops S oi v a) (h : wpOpIn (FW r) 0 P ops (onlyN Q) j K (a.put oi.dst v) w) :
    wpOpIn (FW r) 0 P ops (onlyN Q) j (fun a' w' => YieldsIf P ops S oi v a' ∧ K (a'.put oi.dst v) w') a w := by
  obtain ⟨h1, h2, h3⟩ := Oper.apart_spec hap
  have stays : ∀ (b : Act), YieldsIf P ops S oi v b → ∀ u, YieldsIf P ops S oi v (b.put oj.dst u) := fun b hb u =>
    hb.of_same (execOp_put oi hsi b oj.dst u h3) (wanted_put oi b oj.dst u h3)
  have turn : ∀ (b : Act) (u : Value) (w' : World), K ((b.put oi.dst v).put oj.dst u) w' → K ((b.put oj.dst u).put oi.dst v) w' := fun b u w' hk => by
    rw [← Act.put_comm b v u h2]; exact hk
  unfold wpOpIn at *
  simp only [hj] at *
  rw [wanted_put oj a oi.dst v h1] at h
  split
  · rename_i hw
    rw [if_pos hw] at h
    obtain ⟨_, h⟩ := h
    refine ⟨fun _ _ => trivial, ?_⟩
    rw [Oper.semAt_eq _ _ _ hdj] at h ⊢
    rw [execOp_put oj hsj a oi.dst v h1] at h
    generalize (execOp a.eval oj).run P w = res at h ⊢
    cases res with
    | halt x w' => cases x <;> exact h
    | ok x w' =>
      cases x with
      | value u => exact ⟨stays a hy u, turn a u w' h⟩
      | skip => exact ⟨stays a hy _, turn a _ w' h⟩
      | defer d =>
        have hyd : YieldsIf P ops S oi v ({ a with defers := d :: a.defers } : Act) := hy.of_same rfl rfl
        refine ⟨stays _ hyd _, turn _ _ w' ?_⟩
        have h' : K (({ a.put oi.dst v with defers := d :: (a.put oi.dst v).defers } : Act).put oj.dst undef) w' := h
        rw [Act.put_defers] at h'
        exact h'
      | enter f args =>
        refine ⟨h.1, CallsIn.mono h.2 fun e w'' he => ?_⟩
        cases e with
        | returned u => exact ⟨stays a hy u, turn a u w'' he⟩
        | panicked c => exact he
        | outgrown => exact he
      | row nm args => exact ⟨h.1, RowsIn.mono h.2 fun u w'' he => ⟨stays a hy u, turn a u w'' he⟩⟩
      | round l f tmps asg body =>
        refine ⟨h.1, RoundIn.mono h.2 fun e w'' he => ?_⟩
        cases e with
        | returned u => exact ⟨stays a hy u, turn a u w'' he⟩
        | panicked c => exact he
        | outgrown => exact he
      | _ => exact h
  · rename_i hw
    rw [if_neg hw] at h
    exact ⟨fun _ _ => trivial, stays a hy _, turn a _ w h.2⟩

/-- **an operation that tells its value in every world of S may be taken first** -/
theorem anyS_take {i : Nat} {oi : Oper} {v : Value} (hi : ops[i]? = some oi) (hnd : ∀ (j : Nat) o, ops[j]? = some o → (∀ c, o.op ≠ .defer c) ∧ ∀ cs b, o.op ≠ .select cs b)
    (hpair : ∀ j oj, ops[j]? = some oj → j ≠ i → (∃ e ∈ oj.after, Region.binds .any e = true ∧ e.on = i) ∨ (∃ e ∈ oi.after, Region.binds .any e = true ∧ e.on = j) ∨ oi.apart ops oj = true) :
    ∀ (n : Nat) (ls : Array Bool) (a : Act) (w : World), i ∈ Region.ready .any ops ls → YieldsIf P ops S oi v a → S w →
      anyS P r ops Q S n (ls.setIfInBounds i true) (a.put oi.dst v) w → anyS P r ops Q S (n + 1) ls a w := by
  intro n
  induction n with
  | zero =>
    intro ls a w hr hy hS H
    refine ⟨(fun h => by rw [h] at hr; cases hr), fun j hj => ?_⟩
    by_cases hji : j = i
    · subst hji; exact yields_op hi (hnd _ _ hi).1 hy hS ⟨hS, H⟩
    · have := ready_mono hj hji; rw [H.1] at this; cases this
  | succ n ih =>
    intro ls a w hr hy hS H
    refine ⟨(fun h => by rw [h] at hr; cases hr), fun j hj => ?_⟩
    by_cases hji : j = i
    · subst hji; exact yields_op hi (hnd _ _ hi).1 hy hS ⟨hS, H⟩
    · have hj1 := H.2 j (ready_mono hj hji)
      obtain ⟨hjun, oj, hoj, hall⟩ := mem_ready.1 hj
      obtain ⟨hiun, oi', hoi', halli⟩ := mem_ready.1 hr
      rw [hi] at hoi'; cases hoi'
      have unl : ∀ m, ls.getD m true = false → ls.getD m false = true → False := fun m h1 h2 => by
        rcases Nat.lt_or_ge m ls.size with h | h
        · simp [h] at h1 h2; rw [h1] at h2; cases h2
        · simp [Array.getElem?_eq_none h] at h2
      have hap : oi.apart ops oj = true := by
        rcases hpair j oj hoj hji with ⟨e, he, hb, hon⟩ | ⟨e, he, hb, hon⟩ | h
        · exact (unl i hiun (hon ▸ hall e he hb)).elim
        · exact (unl j hjun (hon ▸ halli e he hb)).elim
        · exact h
      have h2 := op_put hoj hap (hnd _ _ hi).2 (hnd _ _ hoj).2 (hnd _ _ hoj).1 hy hj1
      refine wpOpIn_mono (fun a' w' h3 => ⟨h3.2.1, ih _ a' w' (ready_mono hr (Ne.symm hji)) h3.1 h3.2.1 ?_⟩) h2
      rw [Array.setIfInBounds_comm _ _ hji]
      exact h3.2.2
end

/-! ### the plan -/
theorem bnth_getD (l : List Bool) (n : Nat) : l.toArray.getD n false = bnth l n := by
  simp only [Array.getD_eq_getD_getElem?, List.getElem?_toArray]
  induction l generalizing n with
  | nil => rfl
  | cons x l ih => cases n with
    | zero => rfl
    | succ n => rw [List.getElem?_cons_succ]; exact ih n
theorem bset_set (l : List Bool) (n : Nat) : (bset l n).toArray = l.toArray.setIfInBounds n true := by
  apply Array.ext'
  simp only [Array.toList_setIfInBounds]
  induction l generalizing n with
  | nil => rfl
  | cons x l ih => cases n with
    | zero => rfl
    | succ n => simp [bset, ih n]
theorem bset_length (l : List Bool) (n : Nat) : (bset l n).length = l.length := by
  induction l generalizing n with
  | nil => rfl
  | cons x l ih => cases n with
    | zero => rfl
    | succ n => simp [bset, ih n]
/-- how many have not come up -/
def left : List Bool → Nat
  | [] => 0
  | true :: r => left r
  | false :: r => left r + 1
theorem left_bset (l : List Bool) (n : Nat) (h : bnth l n = false) (hn : n < l.length) : left l = left (bset l n) + 1 := by
  induction l generalizing n with
  | nil => simp at hn
  | cons x l ih => cases n with
    | zero => simp [bnth] at h; subst h; rfl
    | succ n =>
      have := ih n h (by simpa using hn)
      cases x <;> simp [left, bset, this]
theorem rdyB_ready {ops : Array Oper} {ls : List Bool} (hl : ls.length = ops.size) {i : Nat} (h : rdyB ops.toList ls i = true) : i ∈ Region.ready .any ops ls.toArray ∧ bnth ls i = false ∧ i < ls.length := by
  unfold rdyB at h
  simp only [Bool.and_eq_true, Bool.not_eq_true'] at h
  obtain ⟨h1, h2⟩ := h
  rw [nth_getElem?, Array.getElem?_toList] at h2
  cases ho : ops[i]? with
  | none => simp [ho] at h2
  | some o =>
    simp only [ho] at h2
    have hlt : i < ops.size := (Array.getElem?_eq_some_iff.1 ho).1
    refine ⟨mem_ready.2 ⟨?_, o, ho, fun e he hb => ?_⟩, h1, by omega⟩
    · have hg : ls.toArray.getD i false = false := by rw [bnth_getD]; exact h1
      have hi : i < ls.length := by omega
      simp only [Array.getD_eq_getD_getElem?, List.getElem?_toArray, List.getElem?_eq_getElem hi, Option.getD_some] at hg ⊢
      exact hg
    · unfold rdyO at h2
      have := List.all_eq_true.1 h2 e (by simpa using he)
      simp [hb] at this
      rw [bnth_getD]; exact this
theorem ready_only {ops : List Oper} {ls0 : List Bool} {l : List Nat} : ∀ (os : List Oper) (bs : List Bool) (k : Nat), onlyB l ls0 os k bs = true → ∀ j o, os[j]? = some o → bs[j]? = some false → rdyO ls0 o = true → k + j ∈ l
  | [], _, _, _, j, o, h, _, _ => by simp at h
  | _ :: _, [], _, _, j, o, _, h, _ => by simp at h
  | x :: os, b :: bs, k, h, 0, o, ho, hb, hr => by
    simp only [onlyB, Bool.and_eq_true, Bool.or_eq_true] at h
    simp at ho hb
    subst ho; subst hb
    simpa [hr] using h.1
  | x :: os, b :: bs, k, h, j + 1, o, ho, hb, hr => by
    simp only [onlyB, Bool.and_eq_true] at h
    have := ready_only (ops := ops) os bs (k + 1) h.2 j o (by simpa using ho) (by simpa using hb) hr
    rw [show k + (j + 1) = k + 1 + j by omega]; exact this
theorem only_mem {ops : Array Oper} {ls : List Bool} (hl : ls.length = ops.size) {l : List Nat} (h : onlyB l ls ops.toList 0 ls = true) : ∀ j ∈ Region.ready .any ops ls.toArray, j ∈ l := by
  intro j hj
  obtain ⟨h0, o, ho, hall⟩ := mem_ready.1 hj
  have hlt : j < ops.size := (Array.getElem?_eq_some_iff.1 ho).1
  have hb : ls[j]? = some false := by
    have h1 : j < ls.length := by omega
    simp [h1] at h0
    rw [List.getElem?_eq_getElem h1, h0]
  have hr : rdyO ls o = true := by
    unfold rdyO
    rw [List.all_eq_true]
    intro e he
    cases hbd : Region.binds .any e with
    | false => simp
    | true =>
      have := hall e (by simpa using he) hbd
      rw [bnth_getD] at this
      simp [this]
  have := ready_only (ops := ops.toList) ops.toList ls 0 h j o (by rw [Array.getElem?_toList]; exact ho) hb hr
  rw [Nat.zero_add] at this; exact this
theorem pairs_spec {ops : List Oper} : ∀ (l : List Oper) (k : Nat), pairsOk ops k l = true → (∀ j, l[j]? = ops[k + j]?) → ∀ i oi j oj, l[i]? = some oi → ops[j]? = some oj → j ≠ k + i →
    waitsB oj (k + i) = true ∨ waitsB oi j = true ∨ oi.apart ops.toArray oj = true := by
  have inner : ∀ (i : Nat) (oi : Oper) (l : List Oper) (k : Nat), pairOk ops i oi k l = true → ∀ j oj, l[j]? = some oj → k + j ≠ i → waitsB oj i = true ∨ waitsB oi (k + j) = true ∨ oi.apart ops.toArray oj = true := by
    intro i oi l
    induction l with
    | nil => intro k _ j oj h; simp at h
    | cons x l ih =>
      intro k h j oj hj hne
      simp only [pairOk, Bool.and_eq_true, Bool.or_eq_true] at h
      cases j with
      | zero =>
        simp at hj; subst hj
        rcases h.1 with ((h1 | h1) | h1) | h1
        · exact absurd (beq_iff_eq.1 h1).symm (by simpa using hne)
        · exact .inl h1
        · exact .inr (.inl (by simpa using h1))
        · exact .inr (.inr h1)
      | succ j =>
        have := ih (k + 1) h.2 j oj (by simpa using hj) (by omega)
        rw [show k + (j + 1) = k + 1 + j by omega]; exact this
  intro l
  induction l with
  | nil => intro k _ _ i oi j oj h; simp at h
  | cons x l ih =>
    intro k h hl i oi j oj hi hj hne
    simp only [pairsOk, Bool.and_eq_true] at h
    cases i with
    | zero =>
      simp at hi; subst hi
      have := inner k x ops 0 h.1 j oj hj (by simpa using hne)
      simpa using this
    | succ i =>
      have := ih (k + 1) h.2 (fun j => by have := hl (j + 1); rw [List.getElem?_cons_succ] at this; rw [this]; congr 1; omega) i oi j oj (by simpa using hi) hj (by omega)
      rw [show k + (i + 1) = k + 1 + i by omega]; exact this
theorem waitsB_spec {o : Oper} {i : Nat} (h : waitsB o i = true) : ∃ e ∈ o.after, Region.binds .any e = true ∧ e.on = i := by
  unfold waitsB at h
  obtain ⟨e, he, hb⟩ := List.any_eq_true.1 h
  simp only [Bool.and_eq_true, beq_iff_eq] at hb
  exact ⟨e, by simpa using he, hb.1, hb.2⟩
theorem wantW_spec {ops : Array Oper} {e : Env} {a : Act} (hs : Sim e a) {o : Oper} {b : Bool} (h : wantW ops.toList e o = some b) : Region.wanted o (yielded ops a.tmps) = b := by
  unfold wantW at h
  split at h
  · rename_i hg; cases h; exact wanted_none hg _
  · rename_i j want hg
    split at h
    · rename_i d hd
      split at h
      · rename_i c hc; cases h
        have hy : yielded ops a.tmps j = some c := yielded_of hs hd hc
        simp [Region.wanted, hg, hy]
      · rename_i hc; cases h
        have hy : yielded ops a.tmps j = none := yielded_of hs hd hc
        simp [Region.wanted, hg, hy]
      · cases h
    · cases h
theorem takeW_sound {e : Env} {a : Act} (hs : Sim e a) {D : Nat → Prop} {w0 : World} {o : Oper} {k : TV → Prop} (h : takeW P D w0 e o k) : ∃ t, k t ∧ ∀ w, (∀ b, b < w0.heap.size → ¬ D b → w.heap[b]? = w0.heap[b]?) → (execOp a.eval o).run P w = .ok (.value t.toV) w := by
  unfold takeW at h
  split at h
  · rename_i t ht; exact ⟨t, h, fun w _ => pu0_sound hs ht w⟩
  · split at h
    · rename_i p hp
      obtain ⟨t, hk, hr⟩ := pu1_sound hs hp h
      exact ⟨t, hk, fun w _ => hr w⟩
    · split at h
      · rename_i p hp
        refine lo1_sound hs (fun w => ∀ b, b < w0.heap.size → ¬ D b → w.heap[b]? = w0.heap[b]?) (fun kd b o K hK => ?_) hp h
        obtain ⟨x, hd, hc, hk⟩ := hK
        refine ⟨x, fun w hw => ?_, hk⟩
        have hlt : b < w0.heap.size := World.block_lt_of_cell? w0 ⟨b, o, none⟩ hc
        have : w.cell? ⟨b, o, none⟩ = w0.cell? ⟨b, o, none⟩ := by unfold World.cell?; rw [hw b hlt hd]
        rw [this]; exact hc
      · exact h.elim
theorem nowW_sound {e : Env} {a : Act} (hs : Sim e a) {w : World} {o : Oper} {k : TV → Prop} (h : nowW P w e o k) : ∃ t, k t ∧ (execOp a.eval o).run P w = .ok (.value t.toV) w := by
  unfold nowW at h
  split at h
  · rename_i t ht; exact ⟨t, h, pu0_sound hs ht w⟩
  · split at h
    · rename_i p hp
      obtain ⟨t, hk, hr⟩ := pu1_sound hs hp h
      exact ⟨t, hk, hr w⟩
    · split at h
      · rename_i p hp
        obtain ⟨t, hk, hr⟩ := lo1_sound hs (fun u => u = w) (ld_sound w) hp h
        exact ⟨t, hk, hr w rfl⟩
      · exact h.elim
end Go.Vw
