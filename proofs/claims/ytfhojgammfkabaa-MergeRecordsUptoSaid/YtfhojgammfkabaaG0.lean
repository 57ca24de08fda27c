/- Groups, told plainly; how pairs and groups lie in cells; known cells beside other objects. -/
import Derived.Test.YtfhojgammfkabaaT6
import Derived.Test.YtfhojgammfkabaaSGroups
namespace Go.Proofs.Ytfhojgammfkabaa
open Go.Vw

abbrev Str := List UInt8
def EStr : Enc Str := ⟨1, fun s => [(LV.str s).toV], fun _ => rfl, by decide, fun x v h => by simp at h; subst h; rfl⟩
def EPr : Enc (Str × Str) := ⟨2, fun x => [(LV.str x.1).toV, (LV.str x.2).toV], fun _ => rfl, by decide, fun x v h => by simp at h; rcases h with rfl | rfl <;> rfl⟩
def EGr : Enc (Str × Sl) := ⟨2, fun x => [(LV.str x.1).toV, (LV.sl x.2).toV], fun _ => rfl, by decide, fun x v h => by simp at h; rcases h with rfl | rfl <;> rfl⟩
def ESl : Enc Sl := ⟨1, fun s => [(LV.sl s).toV], fun _ => rfl, by decide, fun x v h => by simp at h; subst h; rfl⟩
/-- one pair more -/
def addG (l : List (Str × List Str)) (p : Str × Str) : List (Str × List Str) :=
  match l.getLast? with
  | some x => if x.1 = p.1 then l.dropLast ++ [(x.1, x.2 ++ [p.2])] else l ++ [(p.1, [p.2])]
  | none => [(p.1, [p.2])]
def grp (ps : List (Str × Str)) : List (Str × List Str) := ps.foldl addG []
theorem addG_nil (p : Str × Str) : addG [] p = [(p.1, [p.2])] := rfl
theorem addG_same (T : List (Str × List Str)) (k : Str) (vs : List Str) (v : Str) : addG (T ++ [(k, vs)]) (k, v) = T ++ [(k, vs ++ [v])] := by
  unfold addG
  simp
theorem addG_new {T : List (Str × List Str)} {k : Str} {vs : List Str} {p : Str × Str} (h : k ≠ p.1) : addG (T ++ [(k, vs)]) p = T ++ [(k, vs)] ++ [(p.1, [p.2])] := by
  unfold addG
  simp [h]
theorem addG_pre (T : List (Str × List Str)) (x : Str × List Str) (p : Str × Str) : ∃ y r, addG (T ++ [x]) p = T ++ y :: r := by
  obtain ⟨k, vs⟩ := x
  by_cases h : k = p.1
  · obtain ⟨p1, p2⟩ := p
    simp only at h; subst h
    exact ⟨_, [], addG_same T k vs p2⟩
  · exact ⟨(k, vs), [(p.1, [p.2])], by rw [addG_new h]; simp⟩
theorem fold_pre : ∀ (ps : List (Str × Str)) (T : List (Str × List Str)) (y : Str × List Str) (r : List (Str × List Str)), ∃ y' r', ps.foldl addG (T ++ y :: r) = T ++ y' :: r'
  | [], T, y, r => ⟨y, r, rfl⟩
  | p :: ps, T, y, r => by
    rw [List.foldl_cons]
    have : ∃ y' r', addG (T ++ y :: r) p = T ++ y' :: r' := by
      rcases List.eq_nil_or_concat r with rfl | ⟨r0, z, rfl⟩
      · exact addG_pre T y p
      · obtain ⟨y', r', e⟩ := addG_pre (T ++ y :: r0) z p
        refine ⟨y, r0 ++ y' :: r', ?_⟩
        have e2 : T ++ y :: (r0 ++ [z]) = (T ++ y :: r0) ++ [z] := by simp
        rw [List.concat_eq_append, e2, e]; simp
    obtain ⟨y', r', e⟩ := this
    rw [e]; exact fold_pre ps T y' r'
/-- what has been told stays -/
theorem grp_told {ps : List (Str × Str)} {i : Nat} {T : List (Str × List Str)} {y : Str × List Str} {r : List (Str × List Str)} (h : grp (ps.take i) = T ++ y :: r) : ∃ y' r', grp ps = T ++ y' :: r' := by
  have : grp ps = (ps.drop i).foldl addG (grp (ps.take i)) := by
    unfold grp; rw [← List.foldl_append, List.take_append_drop]
  rw [this, h]; exact fold_pre _ T y r
theorem grp_step {ps : List (Str × Str)} {i : Nat} {p : Str × Str} (h : ps[i]? = some p) : grp (ps.take (i + 1)) = addG (grp (ps.take i)) p := by
  unfold grp
  rw [List.take_add_one, h]
  simp
/-- the state of Groups when i pairs have been seen: T: what has been told -/
inductive GSt (ps : List (Str × Str)) (i c : Nat) : Bool → Str → List Str → Prop
  | zer {key : Str} {vs : List Str} : grp (ps.take i) = [] → c = 0 → vs = [] → GSt ps i c false key vs
  | run {key : Str} {vs : List Str} (T : List (Str × List Str)) : grp (ps.take i) = T ++ [(key, vs)] → T.length = c → vs ≠ [] → vs.length ≤ i → GSt ps i c true key vs
theorem GSt.init (ps : List (Str × Str)) (key : Str) : GSt ps 0 0 false key [] := .zer rfl rfl rfl
/-- a pair of another key: the group is told -/
theorem GSt.tell {ps : List (Str × Str)} {i c : Nat} {key : Str} {vs : List Str} (h : GSt ps i c true key vs) {p : Str × Str} (hp : ps[i]? = some p) (hk : key ≠ p.1) : (grp ps)[c]? = some (key, vs) ∧ GSt ps (i + 1) (c + 1) true p.1 [p.2] := by
  cases h with
  | run T h1 h2 h3 h4 =>
    have e := grp_step hp
    rw [h1, addG_new hk] at e
    have e' : grp (ps.take (i + 1)) = (T ++ [(key, vs)]) ++ (p.1, [p.2]) :: [] := e
    obtain ⟨y', r', e2⟩ := grp_told e'
    refine ⟨?_, .run _ e (by simp [h2]) (by simp) (by simp)⟩
    rw [e2, List.append_assoc, List.getElem?_append_right (by omega), h2, Nat.sub_self]; rfl
theorem GSt.same {ps : List (Str × Str)} {i c : Nat} {key : Str} {vs : List Str} (h : GSt ps i c true key vs) {p : Str × Str} (hp : ps[i]? = some p) (hk : key = p.1) : GSt ps (i + 1) c true p.1 (vs ++ [p.2]) := by
  cases h with
  | run T h1 h2 h3 h4 =>
    have e := grp_step hp
    obtain ⟨p1, p2⟩ := p
    simp only at hk; subst hk
    rw [h1, addG_same] at e
    exact .run T e h2 (by simp) (by simp; omega)
theorem GSt.first {ps : List (Str × Str)} {i c : Nat} {key : Str} {vs : List Str} (h : GSt ps i c false key vs) {p : Str × Str} (hp : ps[i]? = some p) : GSt ps (i + 1) c true p.1 (vs ++ [p.2]) := by
  cases h with
  | zer h1 h2 h3 =>
    have e := grp_step hp
    rw [h1, addG_nil] at e
    subst h3
    exact .run [] e h2.symm (by simp) (by simp)
theorem GSt.last {ps : List (Str × Str)} {c : Nat} {key : Str} {vs : List Str} (h : GSt ps ps.length c true key vs) : (grp ps)[c]? = some (key, vs) ∧ c + 1 = (grp ps).length := by
  cases h with
  | run T h1 h2 h3 h4 =>
    rw [List.take_length] at h1
    rw [h1, List.getElem?_append_right (by omega), h2, Nat.sub_self]
    simp [h2]
theorem GSt.empty {ps : List (Str × Str)} {c : Nat} {key : Str} {vs : List Str} (h : GSt ps ps.length c false key vs) : c = (grp ps).length := by
  cases h with
  | zer h1 h2 h3 => rw [List.take_length] at h1; rw [h1, h2]; rfl
theorem grp_len : ∀ (ps : List (Str × Str)), (grp ps).length ≤ ps.length ∧ ∀ x ∈ grp ps, x.2 ≠ [] ∧ x.2.length ≤ ps.length := by
  intro ps
  have key : ∀ n, n ≤ ps.length → (grp (ps.take n)).length ≤ n ∧ ∀ x ∈ grp (ps.take n), x.2 ≠ [] ∧ x.2.length ≤ n := by
    intro n
    induction n with
    | zero => intro _; simp [grp]
    | succ n ih =>
      intro hn
      obtain ⟨h1, h2⟩ := ih (by omega)
      have hp : ps[n]? = some ps[n] := List.getElem?_eq_getElem (by omega)
      rw [grp_step hp]
      rcases List.eq_nil_or_concat (grp (ps.take n)) with h | ⟨T, z, h⟩
      · rw [h, addG_nil]
        refine ⟨by simp, fun x hx => ?_⟩
        simp at hx; subst hx; simp
      · rw [List.concat_eq_append] at h
        rw [h] at h1 h2 ⊢
        obtain ⟨k, vs⟩ := z
        have hz := h2 (k, vs) (by simp)
        simp only at hz
        by_cases hk : k = ps[n].1
        · obtain ⟨p1, p2, hp12⟩ : ∃ p1 p2, ps[n] = (p1, p2) := ⟨_, _, rfl⟩
          rw [hp12] at hk ⊢
          simp only at hk; subst hk
          rw [addG_same]
          refine ⟨by simp at h1 ⊢; omega, fun x hx => ?_⟩
          rcases List.mem_append.1 hx with hx | hx
          · have := h2 x (by simp [hx]); exact ⟨this.1, by omega⟩
          · simp at hx; subst hx; exact ⟨by simp, by simp; omega⟩
        · rw [addG_new hk]
          refine ⟨by simp at h1 ⊢; omega, fun x hx => ?_⟩
          rcases List.mem_append.1 hx with hx | hx
          · have := h2 x hx; exact ⟨this.1, by omega⟩
          · simp at hx; subst hx; exact ⟨by simp, by simp⟩
  have := key ps.length (Nat.le_refl _)
  rw [List.take_length] at this
  exact this
/-! ### known cells beside other objects -/
structure FA (w0 : World) (D : Nat → Prop) (X : List (Nat × Obj)) (m : List (Nat × List Value)) (w : World) : Prop where
  at_ : At w0 D m w
  far : ∀ q ∈ X, w.heap[q.1]? = some q.2
  isf : ∀ q ∈ X, isFar q.2 = true ∧ w0.heap.size ≤ q.1
  nd : (X.map Prod.fst).Nodup
section
variable {w0 w : World} {D : Nat → Prop} {X : List (Nat × Obj)} {m : List (Nat × List Value)}
theorem FA.rest (h : FA w0 D X m w) : At w (Ks m) m w := h.at_.from fun q hq => ⟨q, hq, rfl⟩
theorem FA.law (h : FA w0 D X m w) {m' : List (Nat × List Value)} {w' : World} (hA : At w (Ks m) m' w') : FA w0 D X m' w' := by
  refine ⟨⟨h.at_.mod.trans hA.mod (fun _ _ h => h) ?_, hA.own, hA.nodup, fun q hq hlt => ?_⟩, fun q hq => ?_, h.isf, h.nd⟩
  · rintro x hx ⟨q, hq, rfl⟩; exact h.at_.wr q hq hx
  · obtain ⟨q', hq', e⟩ := hA.wr q hq (Nat.lt_of_lt_of_le hlt h.at_.mod.size)
    rw [← e] at hlt ⊢; exact h.at_.wr q' hq' hlt
  · refine (hA.mod.block _ (heap_lt (h.far q hq)) ?_).trans (h.far q hq)
    rintro ⟨q', hq', e⟩
    have := h.at_.own q' hq'
    rw [e] at this
    exact far_cell (h.far q hq) (h.isf q hq).1 this
theorem FA.sub (h : FA w0 D X m w) {m' : List (Nat × List Value)} (hs : m'.Sublist m) : FA w0 D X m' w := ⟨h.at_.sub hs, h.far, h.isf, h.nd⟩
theorem FA.perm (h : FA w0 D X m w) {m' : List (Nat × List Value)} (hs : m'.Perm m) : FA w0 D X m' w := ⟨h.at_.perm hs, h.far, h.isf, h.nd⟩
theorem FA.calm (h : FA w0 D X m w) {w' : World} (hM : Mod (fun _ => False) w w') : FA w0 D X m w' :=
  ⟨h.at_.keep0 hM fun _ => id, fun q hq => (hM.block _ (heap_lt (h.far q hq)) id).trans (h.far q hq), h.isf, h.nd⟩
theorem FA.less (h : FA w0 D X m w) {X' : List (Nat × Obj)} (hs : X'.Sublist X) : FA w0 D X' m w := ⟨h.at_, fun q hq => h.far q (hs.subset hq), fun q hq => h.isf q (hs.subset hq), (hs.map Prod.fst).nodup h.nd⟩
theorem FA.xperm (h : FA w0 D X m w) {X' : List (Nat × Obj)} (hs : X'.Perm X) : FA w0 D X' m w := ⟨h.at_, fun q hq => h.far q (hs.subset hq), fun q hq => h.isf q (hs.subset hq), (hs.map Prod.fst).nodup_iff.2 h.nd⟩
/-- another object is made -/
theorem FA.new (h : FA w0 D X m w) {o : Obj} (hf : isFar o = true) : FA w0 D ((w.heap.size, o) :: X) m (w.alloc o) := by
  have hc := h.calm (Mod.alloc (fun _ => False) w o)
  refine ⟨hc.at_, fun q hq => ?_, fun q hq => ?_, ?_⟩
  · rcases List.mem_cons.1 hq with rfl | hq
    · exact World.alloc_heap_new _ _
    · exact hc.far q hq
  · rcases List.mem_cons.1 hq with rfl | hq
    · exact ⟨hf, h.at_.mod.size⟩
    · exact h.isf q hq
  · rw [List.map_cons, List.nodup_cons]
    refine ⟨fun hm => ?_, h.nd⟩
    obtain ⟨q, hq, e⟩ := List.mem_map.1 hm
    have := heap_lt (h.far q hq)
    simp only at e
    omega
/-- another object turns -/
theorem FA.put {b : Nat} {o o' : Obj} (h : FA w0 D ((b, o) :: X) m w) (hf : isFar o' = true) : FA w0 D ((b, o') :: X) m (w.putObj b o') := by
  have hb := h.far (b, o) (by simp)
  have hi := h.isf (b, o) (by simp)
  have hnd := h.nd
  rw [List.map_cons, List.nodup_cons] at hnd
  refine ⟨h.at_.keep (Mod.putObj w b o') (fun x hx e => by have := hi.2; simp only at this; omega) (fun q hq e => ?_), fun q hq => ?_, fun q hq => ?_, h.nd⟩
  · have := h.at_.own q hq
    rw [e] at this
    exact far_cell hb hi.1 this
  · rcases List.mem_cons.1 hq with rfl | hq
    · exact World.putObj_heap_same (heap_lt hb)
    · rw [World.putObj_heap_other fun e => hnd.1 (by have : b = q.1 := e.symm
                                                     simp only [this]; exact List.mem_map_of_mem hq)]
      exact h.far q (List.mem_cons_of_mem _ hq)
  · rcases List.mem_cons.1 hq with rfl | hq
    · exact ⟨hf, hi.2⟩
    · exact h.isf q (List.mem_cons_of_mem _ hq)
end
end Go.Proofs.Ytfhojgammfkabaa
