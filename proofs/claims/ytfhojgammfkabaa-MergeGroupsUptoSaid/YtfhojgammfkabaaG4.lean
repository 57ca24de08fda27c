/- Lists that are kept: bags; a range over groups. -/
import Derived.Test.YtfhojgammfkabaaG3
namespace Go.Proofs.Ytfhojgammfkabaa
open Go.Vw

structure Bag (s : Sl) (P : List (Nat × List Value)) (its : List It) : Prop where
  ex : ∃ rs, P = rs ++ its.map It.blk ∧ VecE rs ESl s (its.map It.sl)
  ok : ∀ i ∈ its, i.Ok
theorem Bag.nil : Bag ⟨none, 0, 0⟩ [] [] := ⟨⟨[], rfl, VecE.nil _⟩, by simp⟩
section
variable {w0 w : World} {D : Nat → Prop} {m P rl : List (Nat × List Value)} {s sl : Sl} {its : List It}
theorem Bag.rd (hb : Bag s P its) {l : List (Nat × List Value)} (hA : At w0 D l w) (hP : ∀ p ∈ P, p ∈ l) : RdS w ESl s (its.map It.sl) ∧ ∀ i ∈ its, RdS w EStr i.sl i.vals := by
  obtain ⟨rs, rfl, hv⟩ := hb.ex
  refine ⟨(hv.vec fun p hp => hA.own p (hP p (List.mem_append_left _ hp))).rd, fun i hi => It.rd (hb.ok i hi) ?_⟩
  exact hA.own i.blk (hP _ (List.mem_append_right _ (List.mem_map_of_mem hi)))
theorem bag_add {vs : List Str} (hA : At w0 D ((m ++ P) ++ rl) w) (hb : Bag s P its) (hv : VecE rl EStr sl vs) (hne : vs ≠ []) (hn : its.length ≤ 1048576) {X : Sl → World → Prop}
    (hK : ∀ s' P' it w', At w0 D (m ++ P') w' → Bag s' P' (its ++ [it]) → it.vals = vs → X s' w') :
    Go.Vw.al w 33 [.sl sl] fun b79 w_80 => ap w_80 33 1 24 [.sl (⟨none, 0, 0⟩)] s (⟨some (b79, 0), 1, 1⟩) X := by
  obtain ⟨rs, rfl, hrs⟩ := hb.ex
  obtain ⟨it, io, iv, isl, rfl⟩ := item_of hv hne
  refine hA.alK fun b79 w80 _ hA80 _ => ?_
  have hA80' : At w0 D (((m ++ (its ++ [it]).map It.blk) ++ [(b79, ESl.f sl)]) ++ rs) w80 := by
    refine hA80.perm ?_
    have e1 : (((m ++ (rs ++ its.map It.blk)) ++ [it.blk]) ++ [(b79, List.map LV.toV [.sl sl])]) = m ++ (rs ++ ((its ++ [it]).map It.blk ++ [(b79, ESl.f sl)])) := by simp [ESl, LV.toV]
    have e2 : (((m ++ (its ++ [it]).map It.blk) ++ [(b79, ESl.f sl)]) ++ rs) = m ++ (((its ++ [it]).map It.blk ++ [(b79, ESl.f sl)]) ++ rs) := by simp
    rw [e1, e2]
    exact List.perm_append_comm.append_left m
  have hx80 : RdS w80 ESl ⟨some (b79, 0), 1, 1⟩ [sl] := rd_one (hA80'.own (b79, ESl.f sl) (by simp))
  refine hA80'.app hrs hx80 rfl rfl (by simp; omega) fun s' rs' w82 hA82 hv82 _ => ?_
  refine hK s' (rs' ++ (its ++ [it]).map It.blk) it w82 ?_ ⟨⟨rs', rfl, by rw [List.map_append]; simpa [isl] using hv82⟩, fun i hi => ?_⟩ iv
  · have h1 := hA82.sub (m' := (m ++ (its ++ [it]).map It.blk) ++ rs') (List.Sublist.append_right (List.sublist_append_left _ _) _)
    refine h1.perm ?_
    rw [List.append_assoc]
    exact List.perm_append_comm.append_left m
  · rcases List.mem_append.1 hi with h | h
    · exact hb.ok i h
    · simp at h; subst h; exact io
theorem bag_fill (hA : At w0 D (m ++ P) w) (hb : Bag s P its) (hn : its.length ≤ 1048576) (hv : ∀ i ∈ its, i.vals.length ≤ 1048576) (t : Str) {K : World → Prop}
    (hK : ∀ w' P', At w0 D (m ++ P') w' → Bag s P' (its.map (It.fill t)) → K w') : callK Try.prog 15 [.leaf (.sl s), .leaf (.str t)] w (.tup []) K := by
  obtain ⟨rs, rfl, hrs⟩ := hb.ex
  rw [← List.append_assoc] at hA
  refine fill_ok hA hrs (fun p hp => List.mem_append_right _ hp) hb.ok hn hv t fun w' hA' => ?_
  rw [List.append_assoc] at hA'
  refine hK w' _ hA' ⟨⟨rs, rfl, by rw [fill_sl]; exact hrs⟩, fun i hi => ?_⟩
  obtain ⟨j, hj, rfl⟩ := List.mem_map.1 hi
  exact (hb.ok j hj).fill t
theorem vals_of_key {a b : List It} (h : a.map It.key = b.map It.key) : a.map It.vals = b.map It.vals := by
  have e : ∀ l : List It, l.map It.vals = (l.map It.key).map fun k => k.2.2 := fun l => by rw [List.map_map]; rfl
  rw [e, e, h]
theorem bag_grow (hA : At w0 D (m ++ P) w) (hb : Bag s P its) (hn : its.length ≤ 1048576) (hv : ∀ i ∈ its, i.vals.length ≤ 1048576) {K : World → Prop}
    (hK : ∀ w' P' (its' : List It), At w0 D (m ++ P') w' → Bag s P' its' → its'.map It.vals = its.map It.vals → K w') : callK Try.prog 16 [.leaf (.sl s)] w (.tup []) K := by
  obtain ⟨rs, rfl, hrs⟩ := hb.ex
  rw [← List.append_assoc] at hA
  refine grow_ok hA hrs (fun p hp => List.mem_append_right _ hp) hb.ok hn hv fun w' its' hA' hkey hok' => ?_
  rw [List.append_assoc] at hA'
  exact hK w' _ its' hA' ⟨⟨rs, rfl, by rw [sl_of_key hkey]; exact hrs⟩, hok'⟩ (vals_of_key hkey)
theorem bag_filled {l : List (Nat × List Value)} (hA : At w0 D l w) (hP : ∀ p ∈ P, p ∈ l) (hb : Bag s P its) (hn : its.length ≤ 1048576) {t : Str} (hv : ∀ v ∈ its.map It.vals, ∃ n, n ≤ 1048576 ∧ v = List.replicate n t) {K : Bool → World → Prop} (hK : K true w) :
    callK Try.prog 17 [.leaf (.sl s), .leaf (.str t)] w (.one (.leaf .bool)) K := by
  obtain ⟨h1, h2⟩ := hb.rd hA hP
  refine filled_ok h1 (fun i hi => ?_) hn hK
  obtain ⟨n, hn, e⟩ := hv i.vals (List.mem_map_of_mem hi)
  exact ⟨n, e ▸ h2 i hi, hn⟩
end
theorem perm_in {α : Type} (A B : List α) {PP PP' : List α} (x : α) (h : PP'.Perm PP) : (((A ++ [x]) ++ PP') ++ B).Perm (((A ++ PP) ++ B) ++ [x]) := by
  have e1 : (((A ++ [x]) ++ PP') ++ B) = A ++ ([x] ++ (PP' ++ B)) := by simp
  have e2 : (((A ++ PP) ++ B) ++ [x]) = A ++ ((PP ++ B) ++ [x]) := by simp
  rw [e1, e2]
  refine .append_left A (List.perm_append_comm.trans ?_)
  exact (h.append_right B).append_right [x]
theorem perm_z {α : Type} (C Q P Z : List α) : ((C ++ (Q ++ P)) ++ Z).Perm (((C ++ Q) ++ Z) ++ P) := by
  rw [← List.append_assoc C Q P]
  exact perm_tail3 _ _ _
/-- a range over texts and slices -/
theorem range_ss {v : Value} {w : World} {B : Nat → Str → Sl → World → (World → (World → Prop) → Prop) → (World → Prop) → (Nat → World → Prop) → Prop} {An : Nat → World → Prop} {As : List (Nat → World → Prop)}
    (h : ∀ (R : LSt → Obj) (l : Nat), (∀ s, isFar (R s) = true) → l = (w.alloc Mk).heap.size →
      (∀ (x : Str) (y : Sl) (w' : World) (K : Bool → World → Prop), w'.heap[l]? = some (R .ready) → B l x y w' (fun u K' => u.heap[l]? = some (R .ready) ∧ K' (u.putObj l (R .busy))) (fun u => u.heap[l]? = some (R .busy) ∧ K true (u.putObj l (R .ready))) (fun j u => u.heap[l]? = some (R .busy) ∧ K false (u.putObj l (R (.done j)))) →
        callV Try.prog (.func (.yield l) #[] #[]) [.leaf (.str x), .leaf (.sl y)] w' (.one (.leaf .bool)) K) →
      callF Try.prog v [.leaf (.val (.func (.yield l) #[] #[]))] ((w.alloc Mk).alloc (R .ready)) (.tup []) fun w3 =>
        (w3.heap[l]? = some (R .ready) ∧ An w.heap.size (w3.putObj l (R (.over none)))) ∨ (∃ j A, As[j]? = some A ∧ w3.heap[l]? = some (R (.done j)) ∧ A w.heap.size (w3.putObj l (R (.over (some j)))))) :
    rangeK Try.prog [.leaf .str, .leaf .sl] v none w B An As := by
  refine ⟨fun l0 h => (by cases h), fun R w1 l hR hw1 hl HY => ?_⟩
  have hw1 : w1 = w.alloc Mk := hw1
  subst hw1
  exact h R l (fun s => isFar_loop (hR s)) hl fun x y w' K h1 h2 => HY [.str x, .sl y] w' K h1 h2
theorem range_groups {w0 : World} {D : Nat → Prop} {X0 : List (Nat × Obj)} {bp b2 : Nat} {pr : Sl} {ps : List (Str × Str)} (hpr : ∀ w', Mod D w0 w' → RdS w' EPr pr ps) (hpl : ps.length ≤ 1048576) {bgn : Int} {Inv Stop : List (Nat × List Value) → Nat → Prop}
    (hb2 : ∀ ro c, Inv ro c → (b2, [allV bp]) ∈ ro) {bg0 gv0 : Int} (hbg : w64 (bg0 + 1) = bgn) {ro0 : List (Nat × List Value)} {w : World} (h : FA w0 D X0 (ro0 ++ [(bp, prC pr bg0 gv0)]) w) (hI : Inv ro0 0)
    {B : Nat → Str → Sl → World → (World → (World → Prop) → Prop) → (World → Prop) → (Nat → World → Prop) → Prop} {An : Nat → World → Prop} {As : List (Nat → World → Prop)}
    (hB : ∀ (l : Nat) (Xr Xb : List (Nat × Obj)) (Z ro rl : List (Nat × List Value)) k sl vs c w' (beg : World → (World → Prop) → Prop) (next : World → Prop) (leave : Nat → World → Prop), FA w0 D Xr ((ro ++ Z) ++ rl) w' → VecE rl EStr sl vs → vs ≠ [] → Inv ro c → (grp ps)[c]? = some (k, vs) →
      (∀ K' : World → Prop, (∀ u, FA w0 D Xb ((ro ++ Z) ++ rl) u → K' u) → beg w' K') → (∀ ro' u, FA w0 D Xb (ro' ++ Z) u → Inv ro' (c + 1) → next u) → (∀ ro' u, FA w0 D Xb (ro' ++ Z) u → Stop ro' (c + 1) → leave 1 u) → B l k sl w' beg next leave)
    (hAn : ∀ ro gv u, FA w0 D ((w.heap.size, Mk) :: X0) (ro ++ [(bp, prC pr bgn gv)]) u → Inv ro (grp ps).length → An w.heap.size u)
    (hAs : ∀ ro gv c u, FA w0 D ((w.heap.size, Mk) :: X0) (ro ++ [(bp, prC pr bgn gv)]) u → Stop ro c → ∃ A, As[1]? = some A ∧ A w.heap.size u) :
    rangeK Try.prog [.leaf .str, .leaf .sl] (.func (.func 39) #[] #[(LV.toV (.ptr (some (b2, 0))))]) none w B An As := by
  refine range_ss fun R l hfR hl HY => ?_
  have h2 := (h.new (o := Mk) rfl).new (hfR .ready)
  rw [← hl] at h2
  generalize w.heap.size = rr at *
  refine callF_func (CS_ok 39 rfl) [.leaf (.val (.func (.yield l) #[] #[])), .leaf (.ptr (some (b2, 0)))] (by rfl) ?_
  refine groups_ok (X := (l, R .ready) :: (rr, Mk) :: X0) (Xs := (l, R (.done 1)) :: (rr, Mk) :: X0) (Stop := Stop) hpr hpl rfl hb2 ?_ ?_ ?_ hbg h2 hI
  · intro Xi Z ro rl k sl vs c w' K hF hv hne hInv hg hcont hstop
    refine HY k sl w' K (hF.far (l, R .ready) (by simp)) ?_
    refine hB l _ ((l, R .busy) :: ((rr, Mk) :: X0 ++ Xi)) Z ro rl k sl vs c w' _ _ _ hF hv hne hInv hg ?_ ?_ ?_
    · intro K' hK'
      exact ⟨hF.far (l, R .ready) (by simp), hK' _ (FA.put (X := (rr, Mk) :: X0 ++ Xi) (o' := R .busy) hF (hfR _))⟩
    · intro ro' u hu hI'
      exact ⟨hu.far (l, R .busy) (by simp), hcont ro' _ (FA.put (X := (rr, Mk) :: X0 ++ Xi) (o' := R .ready) hu (hfR _)) hI'⟩
    · intro ro' u hu hS'
      exact ⟨hu.far (l, R .busy) (by simp), hstop ro' _ (FA.put (X := (rr, Mk) :: X0 ++ Xi) (o' := R (.done 1)) hu (hfR _)) hS'⟩
  · intro ro gv w' hF hInv
    exact .inl ⟨hF.far (l, R .ready) (by simp), hAn ro gv _ ((hF.put (o' := R (.over none)) (hfR _)).less (List.sublist_cons_self _ _)) hInv⟩
  · intro ro gv c w' hF hS
    obtain ⟨A, a1, a2⟩ := hAs ro gv c _ ((hF.put (o' := R (.over (some 1))) (hfR _)).less (List.sublist_cons_self _ _)) hS
    exact .inr ⟨1, A, a1, hF.far (l, R (.done 1)) (by simp), a2⟩
/-- a range over no groups at all -/
theorem range_none {w0 : World} {D : Nat → Prop} {X0 : List (Nat × Obj)} {b2 : Nat} {m : List (Nat × List Value)} {w : World} (h : FA w0 D X0 m w) (hb2 : (b2, [Value.nilFunc]) ∈ m)
    {B : Nat → Str → Sl → World → (World → (World → Prop) → Prop) → (World → Prop) → (Nat → World → Prop) → Prop} {An : Nat → World → Prop} {As : List (Nat → World → Prop)}
    (hAn : ∀ u, FA w0 D ((w.heap.size, Mk) :: X0) m u → An w.heap.size u) : rangeK Try.prog [.leaf .str, .leaf .sl] (.func (.func 39) #[] #[(LV.toV (.ptr (some (b2, 0))))]) none w B An As := by
  refine range_ss fun R l hfR hl _ => ?_
  have h2 := (h.new (o := Mk) rfl).new (hfR .ready)
  rw [← hl] at h2
  generalize w.heap.size = rr at *
  refine callF_func (CS_ok 39 rfl) [.leaf (.val (.func (.yield l) #[] #[])), .leaf (.ptr (some (b2, 0)))] (by rfl) ?_
  refine go_merge_Groups_1 _ _ _ _ _ ?_
  unfold S_merge_Groups_1
  refine ⟨fun x hx => by simp at hx; subst hx; rfl, ?_⟩
  refine h2.rest.alK fun b4 w5 _ hA5 _ => ?_
  have h5 := h2.law hA5
  refine ld_cell (k := .val) .nilFunc (((h5.at_.own _ (List.mem_append_left _ hb2)).cell 0).trans rfl) (.inl ⟨rfl, ifK_t rfl ?_⟩)
  exact .inl ⟨h5.far (l, R .ready) (by simp), hAn _ (((h5.put (o' := R (.over none)) (hfR _)).less (List.sublist_cons_self _ _)).sub (List.sublist_append_left _ _))⟩
end Go.Proofs.Ytfhojgammfkabaa
