/- Two stores answer alike. (no program) -/
import Derived.Test.YtjldecomhpngmaaXG
namespace Go.Proofs.Ytjldecomhpngmaa
open Go.Vw

structure RR (k : Nat) (a b : Full) : Prop where
  perm : a.1.Perm b.1
  nd : (a.1.map (·.1)).Nodup
  so : (b.1.map (·.1)).Pairwise fun x y => sl x y = true
  mt : a.2 = b.2
  len : a.1.length ≤ k
  st : ∀ x ∈ a.1, x.2.stopped = true → x.2.stops = true
  nm : ∀ x ∈ a.1.map (·.1), x.length ≤ 40
theorem getA_of {n : Str} {x : Bl} : ∀ {a : Abs}, (a.map (·.1)).Nodup → (n, x) ∈ a → getA n a = some x
  | [], _, h => by simp at h
  | y :: r, hnd, h => by
    rw [List.map_cons, List.nodup_cons] at hnd
    rcases List.mem_cons.1 h with rfl | h
    · unfold getA; rw [if_pos rfl]
    · have : n ≠ y.1 := by
        rintro rfl
        exact hnd.1 (List.mem_map_of_mem (f := (·.1)) h)
      unfold getA; rw [if_neg this]; exact getA_of hnd.2 h
theorem getA_perm {a b : Abs} (hp : a.Perm b) (hnd : (a.map (·.1)).Nodup) (n : Str) : getA n a = getA n b := by
  have hndb : (b.map (·.1)).Nodup := (hp.map _).nodup_iff.1 hnd
  cases ha : getA n a with
  | some x => exact (getA_of hndb (hp.subset (getA_mem ha))).symm
  | none =>
    cases hb : getA n b with
    | none => rfl
    | some x => rw [getA_of hnd (hp.symm.subset (getA_mem hb))] at ha; cases ha
theorem ask_perm {a b : Abs} (hp : a.Perm b) (hnd : (a.map (·.1)).Nodup) (n : Str) : askA n a = askA n b := by
  unfold askA; rw [getA_perm hp hnd]
theorem putA_map {n : Str} {x : Bl} : ∀ {a : Abs}, (a.map (·.1)).Nodup → putA n x a = a.map fun y => if n = y.1 then (y.1, x) else y
  | [], _ => rfl
  | y :: r, hnd => by
    rw [List.map_cons, List.nodup_cons] at hnd
    unfold putA
    rw [List.map_cons]
    by_cases h : n = y.1
    · rw [if_pos h, if_pos h]
      congr 1
      symm
      rw [List.map_congr_left (g := id)]
      · simp
      · intro z hz
        have : n ≠ z.1 := by
          intro e
          exact hnd.1 (by rw [← h, e]; exact List.mem_map_of_mem (f := (·.1)) hz)
        rw [if_neg this]; rfl
    · rw [if_neg h, if_neg h, putA_map hnd.2]
theorem putA_names {n : Str} {x : Bl} : ∀ {a : Abs}, (putA n x a).map (·.1) = a.map (·.1)
  | [] => rfl
  | y :: r => by
    unfold putA
    split
    · rfl
    · rw [List.map_cons, List.map_cons, putA_names]
theorem putA_same {n : Str} {x : Bl} : ∀ {a : Abs}, getA n a = some x → putA n x a = a
  | [], h => by simp [getA] at h
  | y :: r, h => by
    unfold getA at h
    unfold putA
    split at h
    · rename_i e; cases h; rw [if_pos e]
    · rename_i e; rw [if_neg e, putA_same h]
theorem mem_putA {n : Str} {x : Bl} {z : Str × Bl} : ∀ {a : Abs}, z ∈ putA n x a → z.2 = x ∨ z ∈ a
  | [], h => by simp [putA] at h
  | y :: r, h => by
    unfold putA at h
    split at h
    · rcases List.mem_cons.1 h with rfl | h
      · exact .inl rfl
      · exact .inr (List.mem_cons_of_mem _ h)
    · rcases List.mem_cons.1 h with rfl | h
      · exact .inr List.mem_cons_self
      · rcases mem_putA h with h | h
        · exact .inl h
        · exact .inr (List.mem_cons_of_mem _ h)
theorem delA_filter {n : Str} : ∀ {a : Abs}, (a.map (·.1)).Nodup → delA n a = a.filter fun y => decide (n ≠ y.1)
  | [], _ => rfl
  | y :: r, hnd => by
    rw [List.map_cons, List.nodup_cons] at hnd
    unfold delA
    by_cases h : n = y.1
    · rw [if_pos h, List.filter_cons_of_neg (by simp [h])]
      symm
      refine List.filter_eq_self.2 fun z hz => ?_
      have : n ≠ z.1 := by
        intro e
        exact hnd.1 (by rw [← h, e]; exact List.mem_map_of_mem (f := (·.1)) hz)
      simpa using this
    · rw [if_neg h, List.filter_cons_of_pos (by simp [h]), delA_filter hnd.2]
variable {k : Nat} {a b : Full}
theorem RR.ndb (h : RR k a b) : (b.1.map (·.1)).Nodup := (h.perm.map _).nodup_iff.1 h.nd
theorem RR.mono (h : RR k a b) {k' : Nat} (hk : k ≤ k') : RR k' a b := ⟨h.perm, h.nd, h.so, h.mt, Nat.le_trans h.len hk, h.st, h.nm⟩
theorem RR.ask (h : RR k a b) (n : Str) : askA n a.1 = askA n b.1 := ask_perm h.perm h.nd n
theorem RR.put (h : RR k a b) (n : Str) {x : Bl} (hx : x.stopped = true → x.stops = true) : RR k (putA n x a.1, a.2) (putA n x b.1, b.2) := by
  refine ⟨?_, by rw [putA_names]; exact h.nd, by rw [putA_names]; exact h.so, h.mt, ?_, fun z hz hs => ?_, by rw [putA_names]; exact h.nm⟩
  · show (putA n x a.1).Perm (putA n x b.1)
    rw [putA_map h.nd, putA_map h.ndb]; exact h.perm.map _
  · have := congrArg List.length (putA_names (n := n) (x := x) (a := a.1))
    rw [List.length_map, List.length_map] at this
    show (putA n x a.1).length ≤ k
    rw [this]; exact h.len
  · rcases mem_putA hz with e | hz
    · rw [e] at hs ⊢; exact hx hs
    · exact h.st z hz hs
theorem ask_mem {n : Str} {a : Abs} {c : Int} {y : Bl} (h : askA n a = (c, some y)) : c = 0 ∧ getA n a = some y := by
  unfold askA at h
  split at h
  · cases h
  · split at h
    · cases h
    · rename_i hg; cases h; exact ⟨rfl, hg⟩
/-- a call that looks at one blob and may put another in its place -/
theorem RR.upd (h : RR k a b) {n : Str} {f : Abs → Int × Abs} (F : Int × Option Bl → Int × Option Bl) (hf : ∀ a, f a = match F (askA n a) with | (c, none) => (c, a) | (c, some x) => (c, putA n x a))
    (hs : ∀ c y c' x, F (c, some y) = (c', some x) → (y.stopped = true → y.stops = true) → x.stopped = true → x.stops = true) (hn : ∀ c c' x, F (c, none) ≠ (c', some x)) : (f a.1).1 = (f b.1).1 ∧ RR (k + 1) ((f a.1).2, a.2) ((f b.1).2, b.2) := by
  have ha := hf a.1
  have hb := hf b.1
  rw [← h.ask n] at hb
  cases hF : F (askA n a.1) with
  | mk c o =>
    rw [hF] at ha hb
    cases o with
    | none => simp only at ha hb; rw [ha, hb]; exact ⟨rfl, h.mono (Nat.le_succ k)⟩
    | some x =>
      simp only at ha hb
      rw [ha, hb]
      refine ⟨rfl, (h.put n (x := x) ?_).mono (Nat.le_succ k)⟩
      cases hq : askA n a.1 with
      | mk c2 o2 =>
        rw [hq] at hF
        cases o2 with
        | none => exact absurd hF (hn c2 c x)
        | some y => exact hs c2 y c x hF (h.st (n, y) (getA_mem (ask_mem hq).2))
theorem read_perm (h : RR k a b) (n : Str) : readA n a.1 = readA n b.1 := by unfold readA; rw [h.ask]
theorem real_alike : Alike RealS RealR (fun b => b.1.length < 1073741824) (fun a => (a.1.map (·.1)).Nodup ∧ a.1.length ≤ 1073741824) RR where
  lim := by intro k a b h hk; have := h.perm.length_eq; have := h.len; omega
  limS := by intro k a b h hk; exact ⟨h.nd, by have := h.len; omega⟩
  create := by
    intro k a b h n
    show (createA n a.1).1 = (createR n b.1).1 ∧ RR (k + 1) ((createA n a.1).2, a.2) ((createR n b.1).2, b.2)
    unfold createA createR
    rw [← h.ask n]
    cases hq : askA n a.1 with
    | mk c o =>
      cases o with
      | some y => exact ⟨rfl, h.mono (Nat.le_succ k)⟩
      | none =>
        simp only
        by_cases hc : c = 52
        · rw [if_pos hc, if_pos hc]
          subst hc
          have hna : ∀ x ∈ a.1, x.1 ≠ n := by
            intro x hx e
            have hg := getA_of h.nd (n := x.1) (x := x.2) hx
            rw [e] at hg
            unfold askA at hq
            rw [hg] at hq
            split at hq <;> cases hq
          have hnb : ∀ x ∈ b.1, x.1 ≠ n := fun x hx => hna x (h.perm.symm.subset hx)
          refine ⟨rfl, ?_, ?_, ?_, h.mt, ?_, ?_, ?_⟩
          · refine List.Perm.trans List.perm_append_comm ?_
            refine List.Perm.trans (List.Perm.cons _ h.perm) ?_
            refine List.Perm.trans ?_ List.perm_middle.symm
            rw [List.takeWhile_append_dropWhile]
          · show ((a.1 ++ [(n, Bl.new)]).map (·.1)).Nodup
            rw [List.map_append, List.nodup_append]
            refine ⟨h.nd, by simp, ?_⟩
            rintro x hx y hy rfl
            obtain ⟨z, hz, rfl⟩ := List.mem_map.1 hx
            simp at hy
            exact hna z hz hy
          · show ((b.1.takeWhile (fun x => sl x.1 n) ++ (n, Bl.new) :: b.1.dropWhile (fun x => sl x.1 n)).map (·.1)).Pairwise _
            have hso := h.so
            have hsplit := List.takeWhile_append_dropWhile (p := fun x : Str × Bl => sl x.1 n) (l := b.1)
            have hT : ∀ x ∈ b.1.takeWhile (fun x => sl x.1 n), sl x.1 n = true := fun x hx => List.all_eq_true.1 (List.all_takeWhile (p := fun x : Str × Bl => sl x.1 n) (l := b.1)) x hx
            have hD : ∀ x ∈ b.1.dropWhile (fun x => sl x.1 n), sl n x.1 = true := by
              have hso2 : ((b.1.dropWhile (fun x => sl x.1 n)).map (·.1)).Pairwise fun x y => sl x y = true := hso.sublist ((List.dropWhile_sublist _).map _)
              have hh := List.head?_dropWhile_not (p := fun x : Str × Bl => sl x.1 n) b.1
              have hsub : ∀ x ∈ b.1.dropWhile (fun x => sl x.1 n), x.1 ≠ n := fun x hx => hnb x ((List.dropWhile_sublist _).subset hx)
              cases hd : b.1.dropWhile (fun x => sl x.1 n) with
              | nil => intro x hx; cases hx
              | cons y r =>
                rw [hd] at hso2 hh hsub
                have hy : sl n y.1 = true := by
                  have h1 : sl y.1 n = false := by simpa using hh
                  cases h2 : sl n y.1 with
                  | true => rfl
                  | false => exact absurd (sl_tot _ _ h1 h2) (hsub y List.mem_cons_self)
                intro x hx
                rcases List.mem_cons.1 hx with rfl | hx
                · exact hy
                · rw [List.map_cons, List.pairwise_cons] at hso2
                  exact sl_trans _ _ _ hy (hso2.1 _ (List.mem_map_of_mem (f := (·.1)) hx))
            rw [← hsplit, List.map_append, List.pairwise_append] at hso
            rw [List.map_append, List.map_cons, List.pairwise_append]
            refine ⟨hso.1, List.pairwise_cons.2 ⟨fun y hy => ?_, hso.2.1⟩, fun x hx y hy => ?_⟩
            · obtain ⟨z, hz, rfl⟩ := List.mem_map.1 hy; exact hD z hz
            · rcases List.mem_cons.1 hy with rfl | hy
              · obtain ⟨z, hz, rfl⟩ := List.mem_map.1 hx; exact hT z hz
              · exact hso.2.2 x hx y hy
          · show (a.1 ++ [(n, Bl.new)]).length ≤ k + 1
            have := h.len; simp; omega
          · intro x hx hs
            rcases List.mem_append.1 hx with hx | hx
            · exact h.st x hx hs
            · simp at hx; subst hx; cases hs
          · show ∀ x ∈ (a.1 ++ [(n, Bl.new)]).map (·.1), x.length ≤ 40
            intro x hx
            rw [List.map_append, List.mem_append] at hx
            rcases hx with hx | hx
            · exact h.nm x hx
            · simp at hx; subst hx
              unfold askA at hq
              split at hq
              · cases hq
              · rename_i hg
                have hg : goodN x = true := by simpa using hg
                unfold goodN at hg
                simp only [Bool.and_eq_true, decide_eq_true_eq] at hg
                exact hg.1.2
        · rw [if_neg hc, if_neg hc]
          exact ⟨rfl, h.mono (Nat.le_succ k)⟩
  append := by
    intro k a b h n d
    refine h.upd (n := n) (f := appendA n d) (fun r => match r with
      | (c, none) => (c, none)
      | (_, some b) => if b.out then (54, none) else if b.stopped then (55, none) else if 268435456 < b.data.length + d.length then (57, none) else
        if b.stops = true ∧ b.stop < b.data.length + d.length then (55, some { b with data := b.data ++ d.take (b.stop - b.data.length).toNat, stopped := true }) else (0, some { b with data := b.data ++ d })) ?_ ?_ ?_
    · intro a
      unfold appendA writeA
      cases askA n a with
      | mk c o => cases o with
        | none => rfl
        | some y =>
          simp only
          by_cases h1 : y.out = true
          · simp only [if_pos h1]
          by_cases h2 : y.stopped = true
          · simp only [if_neg h1, if_pos h2]
          by_cases h3 : 268435456 < y.data.length + d.length
          · simp only [if_neg h1, if_neg h2, if_pos h3]
          by_cases h4 : y.stops = true ∧ y.stop < (y.data.length : Int) + d.length
          · simp only [if_neg h1, if_neg h2, if_neg h3, if_pos h4]
          · simp only [if_neg h1, if_neg h2, if_neg h3, if_neg h4]
    · intro c y c' x hF hy hx
      simp only at hF
      split at hF
      · cases hF
      split at hF
      · cases hF
      split at hF
      · cases hF
      split at hF
      · rename_i h4; cases hF; exact h4.1
      · cases hF; exact hy hx
    · intro c c' x hF; cases hF
  publish := by
    intro k a b h n
    show (publishA n a.1).1 = (publishR n b.1).1 ∧ RR (k + 1) ((publishA n a.1).2, a.2) ((publishR n b.1).2, b.2)
    unfold publishA publishR writeA
    rw [← h.ask n]
    cases hq : askA n a.1 with
    | mk c o =>
      cases o with
      | none => exact ⟨rfl, h.mono (Nat.le_succ k)⟩
      | some y =>
        simp only
        have hgb : getA n b.1 = some y := by rw [← getA_perm h.perm h.nd]; exact (ask_mem hq).2
        have hy := h.st (n, y) (getA_mem (ask_mem hq).2)
        by_cases ho : y.out = true
        · rw [if_pos ho, if_pos ho]; exact ⟨rfl, h.mono (Nat.le_succ k)⟩
        rw [if_neg ho, if_neg ho]
        by_cases hs : y.stopped = true
        · have hst : y.stops = true := hy hs
          rw [if_pos hs, if_pos hst]
          have e : ({ y with stopped := true } : Bl) = y := by
            obtain ⟨d, o, s, t, p⟩ := y
            simp at hs; subst hs; rfl
          rw [e, putA_same hgb]
          exact ⟨rfl, h.mono (Nat.le_succ k)⟩
        rw [if_neg hs]
        simp only
        by_cases hst : y.stops = true
        · rw [if_pos hst, if_pos hst]
          exact ⟨rfl, (h.put n (x := { y with stopped := true }) fun _ => hst).mono (Nat.le_succ k)⟩
        · rw [if_neg hst, if_neg hst]
          exact ⟨rfl, (h.put n (x := { y with out := true }) hy).mono (Nat.le_succ k)⟩
  read := by
    intro k a b h n i j hi
    have e : readS n i j a.1 a.2 = readS n i j b.1 b.2 := by unfold readS; rw [read_perm h, h.mt]
    show (readS n i j a.1 a.2).1 = (readS n i j b.1 b.2).1 ∧ (readS n i j a.1 a.2).2.1 = (readS n i j b.1 b.2).2.1 ∧ RR k (a.1, (readS n i j a.1 a.2).2.2) (b.1, (readS n i j b.1 b.2).2.2)
    rw [e]
    exact ⟨rfl, rfl, h.perm, h.nd, h.so, rfl, h.len, h.st, h.nm⟩
  size := by intro k a b h n; show sizeA n a.1 = sizeA n b.1; unfold sizeA; rw [read_perm h]
  delete := by
    intro k a b h n
    show (deleteA n a.1).1 = (deleteA n b.1).1 ∧ RR (k + 1) ((deleteA n a.1).2, a.2) ((deleteA n b.1).2, b.2)
    unfold deleteA
    rw [← h.ask n]
    cases hq : askA n a.1 with
    | mk c o =>
      cases o with
      | none => exact ⟨rfl, h.mono (Nat.le_succ k)⟩
      | some y =>
        show (0 : Int) = 0 ∧ RR (k + 1) (delA n a.1, a.2) (delA n b.1, b.2)
        rw [delA_filter h.nd, delA_filter h.ndb]
        refine ⟨rfl, h.perm.filter _, h.nd.sublist (List.filter_sublist.map _), h.so.sublist (List.filter_sublist.map _), h.mt, ?_, fun x hx => h.st x (List.mem_filter.1 hx).1, fun x hx => h.nm x ((List.filter_sublist.map _).subset hx)⟩
        exact Nat.le_trans (List.length_filter_le _ _) (Nat.le_succ_of_le h.len)
  list := by
    intro k a b h n
    show listA n a.1 = listR n b.1
    unfold listA listR
    refine sorted_one (sortI_sorted _) ?_ ((sortI_perm _).trans (h.perm.filterMap _)) (((sortI_perm _).map _).nodup_iff.2 (infos_nodup h.nd))
    have hso := h.so
    rw [List.pairwise_map] at hso
    unfold Sorted
    refine List.Pairwise.filterMap (S := fun x y : Info => sl y.1 x.1 = false) (infoOf n) (fun x y hxy x' hx' y' hy' => ?_) hso
    have e1 : x'.1 = x.1 := by
      unfold infoOf at hx'
      split at hx'
      · cases hx'; rfl
      · cases hx'
    have e2 : y'.1 = y.1 := by
      unfold infoOf at hy'
      split at hy'
      · cases hy'; rfl
      · cases hy'
    rw [e1, e2]
    cases hh : sl y.1 x.1 with
    | false => rfl
    | true => have := sl_trans _ _ _ hxy hh; rw [sl_irr] at this; cases this
  stop := by
    intro k a b h n j
    refine h.upd (n := n) (f := stopA n j) (fun r => match r with
      | (c, none) => (c, none)
      | (_, some b) => if b.out then (54, none) else if b.stopped then (55, none) else (0, some { b with stops := true, stop := mxI j 0 })) ?_ ?_ ?_
    · intro a
      unfold stopA writeA
      cases askA n a with
      | mk c o => cases o with
        | none => rfl
        | some y =>
          simp only
          by_cases h1 : y.out = true
          · simp only [if_pos h1]
          by_cases h2 : y.stopped = true
          · simp only [if_neg h1, if_pos h2]
          · simp only [if_neg h1, if_neg h2]
    · intro c y c' x hF hy hx
      simp only at hF
      split at hF
      · cases hF
      split at hF
      · cases hF
      cases hF; rfl
    · intro c c' x hF; cases hF
  flip := by
    intro k a b h n i j _ _
    refine h.upd (n := n) (f := flipA n i j) (fun r => match r with
      | (c, none) => (c, none)
      | (_, some b) => if i < 0 ∨ 8 * (b.data.length : Int) ≤ i then (56, none) else (0, some { b with data := flips i.toNat j 32 b.data })) ?_ ?_ ?_
    · intro a
      unfold flipA
      cases askA n a with
      | mk c o => cases o with
        | none => rfl
        | some y => simp only; split <;> rfl
    · intro c y c' x hF hy hx
      simp only at hF
      split at hF
      · cases hF
      cases hF; exact hy hx
    · intro c c' x hF; cases hF
  resize := by
    intro k a b h n j
    refine h.upd (n := n) (f := resizeA n j) (fun r => match r with
      | (c, none) => (c, none)
      | (_, some b) => if j < -(b.data.length : Int) ∨ 268435456 - (b.data.length : Int) < j then (56, none) else
        if 0 < j then (0, some { b with data := b.data ++ List.replicate j.toNat 0 }) else (0, some { b with data := b.data.take (b.data.length + j).toNat })) ?_ ?_ ?_
    · intro a
      unfold resizeA
      cases askA n a with
      | mk c o => cases o with
        | none => rfl
        | some y =>
          simp only
          split
          · rfl
          split <;> rfl
    · intro c y c' x hF hy hx
      simp only at hF
      split at hF
      · cases hF
      split at hF <;> (cases hF; exact hy hx)
    · intro c c' x hF; cases hF
  meter := by intro k a b h; exact h.mt
  mono := by intro k a b h; exact h.mono (Nat.le_succ k)
end Go.Proofs.Ytjldecomhpngmaa
