/- The document's own store: Delete, Create. -/
import Derived.Test.YtjldecomhpngmaaXB
namespace Go.Proofs.Ytjldecomhpngmaa
open Go.Vw

theorem flat_sub {α : Type} : ∀ {l l' : List (List α)}, l.Sublist l' → l.flatten.Sublist l'.flatten
  | _, _, .slnil => List.Sublist.refl _
  | _, _, .cons a h => by rw [List.flatten_cons]; exact (flat_sub h).trans (List.sublist_append_right _ _)
  | _, _, .cons_cons a h => by rw [List.flatten_cons, List.flatten_cons]; exact (List.Sublist.refl _).append (flat_sub h)
section
variable {w0 w : World} {D : Nat → Prop} {g : RG}
theorem at_swap {q : Nat} {c : List Value} {rL ro : BL} {ros ros' : List BL} (hA : At w0 D (([(q, c)] :: rL :: ros) ++ [ro]).flatten w) (hs : ros'.flatten.Sublist ros.flatten) : At w0 D ([(q, c)] :: ro :: ros').flatten w := by
  have h1 : ([(q, c)] ++ (ros'.flatten ++ ro)).Sublist (([(q, c)] :: rL :: ros) ++ [ro]).flatten := by
    simp only [List.flatten_append, List.flatten_cons, List.flatten_nil, List.append_nil, List.append_assoc]
    exact (List.Sublist.refl _).append ((hs.append (List.Sublist.refl _)).trans (List.sublist_append_right _ _))
  refine (hA.sub h1).perm ?_
  simp only [List.flatten_cons]
  exact (List.Perm.refl _).append List.perm_append_comm
theorem rabs_del {es : List (Str × Sl × Bl)} {i : Nat} {x : Str × Sl × Bl} {n : Str} (hx : es[i]? = some x) (hn : x.1 = n) (hA : ∀ z ∈ es.take i, z.1 ≠ n) : ((es.eraseIdx i).map fun x => (x.1, x.2.2)) = delA n (es.map fun x => (x.1, x.2.2)) := by
  have hi : i < es.length := (List.getElem?_eq_some_iff.1 hx).1
  have e1 : es = es.take i ++ x :: es.drop (i + 1) := by
    have : es.drop i = x :: es.drop (i + 1) := by rw [List.drop_eq_getElem_cons hi]; congr 1; rw [List.getElem?_eq_getElem hi] at hx; exact Option.some.inj hx
    rw [← this, List.take_append_drop]
  rw [List.eraseIdx_eq_take_drop_succ]
  conv => rhs; rw [e1]
  simp only [List.map_append, List.map_cons]
  rw [hn, delA_mid (fun z hz => by obtain ⟨u, hu, rfl⟩ := List.mem_map.1 hz; exact hA u hu)]
abbrev ldq {g : RG} {ro : BL} {u : World} (hA : At w0 D (g.parts ++ [ro]).flatten u) {k : Kd} {o : Nat} (y : Den k) {K : Den k → Prop} (hy : g.qc[o]? = some (LV.mk k y).toV) (hK : K y) : Go.Vw.ld u k g.q o K := hA.ldP (i := 0) (b := g.q) (c := g.qc) rfl y hy hK
theorem rdSide {ro : BL} {u : World} (hA : At w0 D (g.parts ++ [ro]).flatten u) (hL : VecL g.rL ERb g.lS g.es) : RdS u ERb g.lS g.es := hL.rd fun p hp => hA.own p (by simp [RG.parts, hp])
theorem rdelete_ok (hA : At w0 D g.parts.flatten w) (hg : g.ok) (n : Str) (hn : n.length ≤ 1099511627776) {K : Int → World → Prop} (hK : ∀ g' w', RN w0 D g (deleteA n g.abs).2 g.mt g' w' → K (deleteA n g.abs).1 w') :
    callK Try.prog 47 [.leaf (.ptr (some (g.q, 0))), .leaf (.str n)] w (.one (.leaf (.int .i64))) K := by
  refine go_winnowref5_Store_Delete _ _ _ _ ?_
  refine rask_ok hA hg n hn (fun c hc hc2 _ => ?_) fun i x hx hxn hpre hask => ?_
  · have e1 : deleteA n g.abs = (c, g.abs) := by unfold deleteA; rw [hc]
    rw [e1] at hK
    exact ifK_t (by simpa using askA_c hc) (hK _ _ (rself hA hg))
  have e1 : deleteA n g.abs = (0, delA n g.abs) := by unfold deleteA; rw [hask]
  rw [e1] at hK
  have hi : i < g.es.length := (List.getElem?_eq_some_iff.1 hx).1
  have hlen := hg.len
  have hrd := RG.rdL hA hg.vL
  have hsl : g.lS.len = g.es.length := hg.vL.1
  have hcap := hg.vL.2.1
  refine ifK_f rfl (dr_some (RG.ldQ hA (k := .sl) g.lS rfl ?_))
  refine ⟨0, i, g.lS.cap, rfl, rfl, rfl, Nat.zero_le _, by omega, Nat.le_refl _, ?_⟩
  have hr1 : RdS w ERb (g.lS.cut 6 0 i g.lS.cap) ((g.es.take i).drop 0) := RdS.cutR hrd (Nat.zero_le _) (by omega) (by omega)
  rw [List.drop_zero] at hr1
  refine appL (m := g.parts.flatten) (ro := []) (l := ([] : List (Str × Sl × Bl))) (side_nil hA) (E := ERb) (VecL.nil ERb) hr1 rfl rfl (by simp; omega) fun a10 ro w2 hA2 hv _ _ => ?_
  rw [List.nil_append] at hv
  have hA2' : At w0 D (g.parts ++ [ro]).flatten w2 := by rw [List.flatten_append]; simpa using hA2
  refine dr_some (ldq hA2' (k := .sl) g.lS rfl ?_)
  have hs1 : w64 ((i : Int) + 1) = ((i + 1 : Nat) : Int) := step64 (by omega)
  rw [hs1]
  refine ⟨i + 1, g.lS.len, g.lS.cap, rfl, rfl, rfl, by omega, hcap, Nat.le_refl _, ?_⟩
  have hr2 : RdS w2 ERb (g.lS.cut 6 (i + 1) g.lS.len g.lS.cap) ((g.es.take g.lS.len).drop (i + 1)) := RdS.cutR (rdSide hA2' hg.vL) (by omega) (by omega) (by omega)
  rw [List.take_of_length_le (by omega)] at hr2
  refine appL hA2 hv hr2 rfl rfl (by simp; omega) fun a16 ro' w3 hA3 hv3 _ _ => dr_some ?_
  have hA3' : At w0 D (g.parts ++ [ro']).flatten w3 := by rw [List.flatten_append]; simpa using hA3
  refine hA3'.stP (i := 0) (b := g.q) (c := g.qc) rfl (by simp [RG.qc]) fun w4 hA4 _ => ?_
  rw [← List.eraseIdx_eq_take_drop_succ] at hv3
  let g' : RG := { g with lS := a16, rL := ro', es := g.es.eraseIdx i, ros := g.ros.eraseIdx i }
  have hA4 : At w0 D (([(g.q, g'.qc)] :: g.rL :: g.ros) ++ [ro']).flatten w4 := hA4
  have hA5 : At w0 D g'.parts.flatten w4 := at_swap hA4 (flat_sub (List.eraseIdx_sublist _ _))
  refine hK g' w4 ⟨hA5, ⟨hv3, ?_, ?_, fun k z r hz hr => ?_⟩, rfl, ?_, rfl⟩
  · simp [g', List.length_eraseIdx, hg.n]
  · have : (g.es.eraseIdx i).length ≤ g.es.length := List.length_eraseIdx_le ..
    exact Nat.le_trans this hlen
  · have hz : (g.es.eraseIdx i)[k]? = some z := hz
    have hr : (g.ros.eraseIdx i)[k]? = some r := hr
    rw [List.getElem?_eraseIdx] at hz hr
    split at hz
    · rename_i hki
      rw [if_pos hki] at hr
      exact hg.vec k z r hz hr
    · rename_i hki
      rw [if_neg hki] at hr
      exact hg.vec (k + 1) z r hz hr
  · exact rabs_del hx hxn hpre
/-! ### Create -/
def createR (n : Str) (a : Abs) : Int × Abs := match askA n a with
  | (_, some _) => (51, a)
  | (c, none) => if c = 52 then (0, a.takeWhile (fun x => sl x.1 n) ++ (n, Bl.new) :: a.dropWhile (fun x => sl x.1 n)) else (c, a)
theorem while_take {α : Type} {p : α → Bool} : ∀ {l : List α} {j : Nat}, (∀ x ∈ l.take j, p x = true) → (∀ x, l[j]? = some x → p x = false) → l.takeWhile p = l.take j ∧ l.dropWhile p = l.drop j
  | [], j, _, _ => by simp
  | x :: l, 0, _, h => by have := h x rfl; simp [this]
  | x :: l, j + 1, h1, h2 => by
    have hx := h1 x (by simp)
    obtain ⟨e1, e2⟩ := while_take (l := l) (j := j) (fun y hy => h1 y (by simp [hy])) (fun y hy => h2 y (by simpa using hy))
    simp [hx, e1, e2]
theorem rcreate_ok (hA : At w0 D g.parts.flatten w) (hg : g.ok) (hlim : g.es.length < 1073741824) (n : Str) (hn : n.length ≤ 1099511627776) {K : Int → World → Prop} (hK : ∀ g' w', RN w0 D g (createR n g.abs).2 g.mt g' w' → K (createR n g.abs).1 w') :
    callK Try.prog 40 [.leaf (.ptr (some (g.q, 0))), .leaf (.str n)] w (.one (.leaf (.int .i64))) K := by
  refine go_winnowref5_Store_Create _ _ _ _ ?_
  refine rask_ok hA hg n hn (fun c hc hc2 hc3 => ?_) fun i x hx hxn hpre hask => ?_
  rotate_left
  · have e1 : createR n g.abs = (51, g.abs) := by unfold createR; rw [hask]
    rw [e1] at hK
    exact ifK_t rfl (hK _ _ (rself hA hg))
  refine ifK_f (by simpa using askA_c hc) ?_
  refine ifK_intro (fun h => ?_) fun h => ?_
  · have h : c ≠ 52 := by simpa using h
    have e1 : createR n g.abs = (c, g.abs) := by unfold createR; rw [hc]; simp [h]
    rw [e1] at hK
    exact hK _ _ (rself hA hg)
  have h : c = 52 := by simpa using h
  subst h
  have hlen := hg.len
  have hsl : g.lS.len = g.es.length := hg.vL.1
  have hcap := hg.vL.2.1
  have hrd := RG.rdL hA hg.vL
  refine join1 (a := .int .i64) (fun (z : Int) u => ∃ j : Nat, z = j ∧ j ≤ g.es.length ∧ u = w ∧ (∀ x ∈ g.es.take j, sl x.1 n = true) ∧ ∀ x, g.es[j]? = some x → sl x.1 n = false) ?_ ?_
  · intro k6 hk6
    refine loop1 (k := .int .i64) (fun (i : Int) u => u = w ∧ ∃ j : Nat, i = j ∧ j ≤ g.es.length ∧ ∀ x ∈ g.es.take j, sl x.1 n = true) (fun i _ => (g.es.length - i).toNat) (x := 0) rfl ⟨rfl, 0, rfl, by omega, by simp⟩ ?_
    rintro i u ⟨rfl, j, rfl, hj, hne⟩
    refine join1 (fun b v => v = u ∧ (b = true → j < g.es.length ∧ ∀ x, g.es[j]? = some x → sl x.1 n = true) ∧ (b = false → ∀ x, g.es[j]? = some x → sl x.1 n = false)) ?_ ?_
    · intro k10 hk10
      refine dr_some (RG.ldQ hA (k := .sl) g.lS rfl ?_)
      rw [hsl]
      refine ifK_intro (fun h => ?_) fun h => ?_
      · have hlt : j < g.es.length := dlt h
        have hx : g.es[j]? = some g.es[j] := List.getElem?_eq_getElem hlt
        refine dr_some (RG.ldQ hA (k := .sl) g.lS rfl ?_)
        refine hrd.ix rfl rfl hx fun b o _ hc => ld_cell (k := .str) g.es[j].1 (hc 0 (by decide)) ?_
        refine hk10 _ _ ⟨rfl, fun hb => ⟨hlt, fun y hy => ?_⟩, fun hb y hy => ?_⟩
        · rw [hx] at hy; cases hy; exact hb
        · rw [hx] at hy; cases hy; exact hb
      · have hlt : g.es.length ≤ j := dge h
        exact hk10 _ _ ⟨rfl, fun hb => (by cases hb), fun _ y hy => by rw [List.getElem?_eq_none hlt] at hy; cases hy⟩
    · rintro b v ⟨rfl, hb1, hb2⟩
      refine ifK_intro (fun hb => ?_) fun hb => hk6 _ _ ⟨j, rfl, hj, rfl, hne, hb2 hb⟩
      obtain ⟨hlt, hx⟩ := hb1 hb
      refine ⟨⟨rfl, j + 1, step64 (by omega), by omega, fun y hy => ?_⟩, by rw [step64 (by omega)]; omega⟩
      rw [List.take_add_one, List.mem_append] at hy
      rcases hy with hy | hy
      · exact hne y hy
      · exact hx y (by simpa using hy)
  rintro z u ⟨j, rfl, hj, rfl, ht, hd⟩
  obtain ⟨hw1, hw2⟩ := while_take ht hd
  have e1 : createR n g.abs = (0, (g.es.take j ++ (n, (⟨none, 0, 0⟩ : Sl), Bl.new) :: g.es.drop j).map fun x => (x.1, x.2.2)) := by
    unfold createR; rw [hc]
    simp only [if_true]
    unfold RG.abs
    rw [List.takeWhile_map, List.dropWhile_map, List.map_append, List.map_cons, ← hw1, ← hw2]
    rfl
  rw [e1] at hK
  refine dr_some (RG.ldQ hA (k := .sl) g.lS rfl ?_)
  refine ⟨0, j, g.lS.cap, rfl, rfl, rfl, Nat.zero_le _, by omega, Nat.le_refl _, ?_⟩
  have hr1 : RdS u ERb (g.lS.cut 6 0 j g.lS.cap) ((g.es.take j).drop 0) := RdS.cutR hrd (Nat.zero_le _) (by omega) (by omega)
  rw [List.drop_zero] at hr1
  refine appL (m := g.parts.flatten) (ro := []) (l := ([] : List (Str × Sl × Bl))) (side_nil hA) (E := ERb) (VecL.nil ERb) hr1 rfl rfl (by simp; omega) fun a28 ro w2 hA2 hv _ _ => ?_
  rw [List.nil_append] at hv
  refine hA2.alK fun b30 w31 _ hA31 hM31 => ?_
  have hr30 : RdS w31 ERb ⟨some (b30, 0), 1, 1⟩ [(n, (⟨none, 0, 0⟩ : Sl), Bl.new)] := by
    refine ⟨rfl, .inr ⟨b30, 0, rfl, fun i hi => ?_⟩, Nat.le_refl _⟩
    rw [(hA31.own (b30, _) (List.mem_append_right _ (List.mem_singleton.2 rfl))).cell, Nat.zero_add]; rfl
  have hA31' : At w0 D (g.parts.flatten ++ ro) w31 := hA31.sub (List.sublist_append_left _ _)
  refine appL hA31' hv hr30 rfl rfl (by simp; omega) fun a32 ro2 w33 hA33 hv33 _ _ => ?_
  have hA33' : At w0 D (g.parts ++ [ro2]).flatten w33 := by rw [List.flatten_append]; simpa using hA33
  refine dr_some (ldq hA33' (k := .sl) g.lS rfl ?_)
  refine ⟨j, g.lS.len, g.lS.cap, rfl, rfl, rfl, by omega, hcap, Nat.le_refl _, ?_⟩
  have hr2 : RdS w33 ERb (g.lS.cut 6 j g.lS.len g.lS.cap) ((g.es.take g.lS.len).drop j) := RdS.cutR (rdSide hA33' hg.vL) (by omega) (by omega) (by omega)
  rw [List.take_of_length_le (by omega)] at hr2
  refine appL hA33 hv33 hr2 rfl rfl (by simp; omega) fun a38 ro3 w3 hA3 hv3 _ _ => dr_some ?_
  have hA3' : At w0 D (g.parts ++ [ro3]).flatten w3 := by rw [List.flatten_append]; simpa using hA3
  refine hA3'.stP (i := 0) (b := g.q) (c := g.qc) rfl (by simp [RG.qc]) fun w4 hA4 _ => ?_
  rw [List.append_assoc, List.singleton_append] at hv3
  let g' : RG := { g with lS := a38, rL := ro3, es := g.es.take j ++ (n, (⟨none, 0, 0⟩ : Sl), Bl.new) :: g.es.drop j, ros := g.ros.take j ++ [] :: g.ros.drop j }
  have hA4 : At w0 D (([(g.q, g'.qc)] :: g.rL :: g.ros) ++ [ro3]).flatten w4 := hA4
  have hA5 : At w0 D g'.parts.flatten w4 := at_swap hA4 (by
    rw [List.flatten_append, List.flatten_cons, List.nil_append, ← List.flatten_append, List.take_append_drop]; exact List.Sublist.refl _)
  have hrn := hg.n
  refine hK g' w4 ⟨hA5, ⟨hv3, ?_, ?_, fun k z r hz hr => ?_⟩, rfl, rfl, rfl⟩
  · simp [g']; omega
  · simp [g']; omega
  · have hz : (g.es.take j ++ (n, (⟨none, 0, 0⟩ : Sl), Bl.new) :: g.es.drop j)[k]? = some z := hz
    have hr : (g.ros.take j ++ [] :: g.ros.drop j)[k]? = some r := hr
    rw [List.getElem?_append] at hz hr
    have l1 : (g.es.take j).length = j := by simp; omega
    have l2 : (g.ros.take j).length = j := by simp; omega
    rw [l1] at hz
    rw [l2] at hr
    by_cases hk : k < j
    · rw [if_pos hk, List.getElem?_take_of_lt hk] at hz hr
      exact hg.vec k z r hz hr
    · rw [if_neg hk] at hz hr
      cases hkj : k - j with
      | zero =>
        rw [hkj] at hz hr
        simp at hz hr
        subst hz; subst hr
        exact ⟨VecL.nil EU, Bl.new_ok⟩
      | succ t =>
        rw [hkj, List.getElem?_cons_succ, List.getElem?_drop] at hz hr
        exact hg.vec _ z r hz hr
end
end Go.Proofs.Ytjldecomhpngmaa
