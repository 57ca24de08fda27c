/- List: the blobs whose names begin so, by rising names. -/
import Derived.Test.YtjldecomhpngmaaVT
import Derived.Maps.RangeRun
namespace Go.Proofs.Ytjldecomhpngmaa
open Go.Vw

def hasP (s pre : Str) : Bool := decide (pre.length ≤ s.length) && (s.take pre.length == pre)
theorem hasPrefix_ok (s pre : Str) (w : World) (hs : pre.length ≤ 4611686018427387904) {K : Bool → World → Prop} (hK : K (hasP s pre) w) : callK Try.prog 36 [.leaf (.str s), .leaf (.str pre)] w (.one (.leaf .bool)) K := by
  refine go_strings_HasPrefix _ _ _ _ ?_
  refine go_internal_stringslite_HasPrefix _ _ _ _ ?_
  refine join1 (fun c u => c = hasP s pre ∧ u = w) ?_ (by rintro c u ⟨rfl, rfl⟩; exact hK)
  intro k hk
  refine ifK_intro (fun h => ?_) fun h => hk _ _ ⟨?_, rfl⟩
  · have hl : pre.length ≤ s.length := by have h : (pre.length : Int) ≤ (s.length : Int) := of_decide_eq_true h; omega
    refine ⟨0, pre.length, rfl, rfl, Nat.zero_le _, hl, hk _ _ ⟨?_, rfl⟩⟩
    unfold hasP
    rw [decide_eq_true hl]; simp
  · have hl : ¬ pre.length ≤ s.length := by have h : ¬ (pre.length : Int) ≤ (s.length : Int) := of_decide_eq_false h; omega
    unfold hasP
    rw [decide_eq_false hl]; rfl
def infoOf (pre : Str) (x : Str × Bl) : Option Info := if hasP x.1 pre = true then some (x.1, if x.2.out then 2 else 1, x.2.data.length) else none
def sortI (l : List Info) : List Info := l.mergeSort fun x y => !sl y.1 x.1
theorem sortI_perm (l : List Info) : (sortI l).Perm l := List.mergeSort_perm _ _
theorem sl_asym {a b : Str} (h : sl a b = true) : sl b a = false := by
  cases h2 : sl b a with
  | false => rfl
  | true => have := sl_trans a b a h h2; rw [sl_irr] at this; cases this
theorem sortI_sorted (l : List Info) : Sorted (sortI l) := by
  have := List.pairwise_mergeSort (le := fun x y : Info => !sl y.1 x.1) (fun a b c h1 h2 => by
    simp only [Bool.not_eq_true'] at h1 h2 ⊢
    exact sl_ntrans _ _ _ h2 h1) (fun a b => by
    cases h : sl b.1 a.1 with
    | false => simp
    | true => simp [sl_asym h]) l
  exact this.imp fun h => by simpa using h
def listA (pre : Str) (a : Abs) : List Info := sortI (a.filterMap (infoOf pre))
theorem infos_nodup {pre : Str} : ∀ {a : Abs}, (a.map (·.1)).Nodup → ((a.filterMap (infoOf pre)).map (·.1)).Nodup
  | [], _ => by simp
  | x :: a, h => by
    simp only [List.map_cons, List.nodup_cons] at h
    have ih := infos_nodup (pre := pre) h.2
    rw [List.filterMap_cons]
    unfold infoOf at ih ⊢
    by_cases hp : hasP x.1 pre = true
    · rw [if_pos hp]
      simp only [List.map_cons, List.nodup_cons]
      refine ⟨fun hm => h.1 ?_, ih⟩
      obtain ⟨y, hy, e⟩ := List.mem_map.1 hm
      obtain ⟨z, hz, e2⟩ := List.mem_filterMap.1 hy
      split at e2
      · simp only [Option.some.injEq] at e2
        subst e2
        rw [← e]; exact List.mem_map_of_mem hz
      · cases e2
    · rw [if_neg hp]; exact ih
theorem filter_more {γ : Type} {f : γ → Nat} : ∀ {Z : List γ} {z : γ} {p : Nat → Bool}, (Z.map f).Nodup → z ∈ Z → p (f z) = false → (Z.filter fun y => p (f y) || f y == f z).Perm (z :: Z.filter fun y => p (f y))
  | [], z, p, _, h, _ => by cases h
  | y :: Z, z, p, hn, hz, hp => by
    simp only [List.map_cons, List.nodup_cons] at hn
    rcases List.mem_cons.1 hz with rfl | hz
    · have hrest : (Z.filter fun y => p (f y) || f y == f z) = Z.filter fun y => p (f y) := by
        apply List.filter_congr
        intro x hx
        have : (f x == f z) = false := by
          simp only [beq_eq_false_iff_ne, ne_eq]
          intro e; exact hn.1 (e ▸ List.mem_map_of_mem hx)
        rw [this, Bool.or_false]
      simp only [List.filter_cons, hp, BEq.rfl, Bool.or_true, if_true, Bool.false_eq_true, if_false, hrest]
      exact List.Perm.refl _
    · have ih := filter_more (p := p) hn.2 hz hp
      have hne : (f y == f z) = false := by
        simp only [beq_eq_false_iff_ne, ne_eq]
        intro e; exact hn.1 (e ▸ List.mem_map_of_mem hz)
      simp only [List.filter_cons, hne, Bool.or_false]
      split
      · exact (List.Perm.cons y ih).trans (List.Perm.swap _ _ _)
      · exact ih
section
variable {w0 w : World} {m : List (Nat × List Value)} {s : Int} {g : SG}
theorem StA.sided {ro : BL} {w' : World} (hA : At w0 F0 (((m ++ [g.hd s]) ++ owns g.ents) ++ ro) w') (hn : Names w' g.r g.names) (ho : w0.heap.size ≤ g.r) (hv : ∀ e ∈ g.ents, VecL e.ro EU e.sl e.bl.data ∧ e.bl.ok) : StA w0 (m ++ ro) s g w' := by
  refine ⟨hA.perm ?_, hn, ho, hv⟩
  simp only [List.append_assoc]
  refine List.Perm.append_left _ ?_
  rw [← List.append_assoc [g.hd s]]
  exact List.perm_append_comm
theorem StA.apart {ro : BL} (h : StA w0 (m ++ ro) s g w) : At w0 F0 (((m ++ [g.hd s]) ++ owns g.ents) ++ ro) w := by
  refine h.at_.perm ?_
  simp only [List.append_assoc]
  refine List.Perm.append_left _ ?_
  rw [← List.append_assoc [g.hd s]]
  exact List.perm_append_comm
theorem StA.farMod (h : StA w0 m s g w) {b : Nat} {o : Obj} (hb : w.heap[b]? = some o) (hf : isFar o = true) (hne : b ≠ g.r) (hge : w0.heap.size ≤ b) {w' : World} (hM : Mod (fun k => k = b) w w') : StA w0 m s g w' :=
  ⟨h.at_.keep hM (fun x hx e => by subst e; exact absurd hx (by omega)) fun p hp e => far_cell hb hf (e ▸ h.at_.own p hp), h.nm.keep hM (Ne.symm hne), h.old, h.vec⟩
theorem modSet {w : World} {r : Nat} {o' : Obj} : Mod (fun k => k = r) w (Go.ChangeMaps.setBlock w r o') := by
  refine ⟨rfl, rfl, rfl, by simp [Go.ChangeMaps.setBlock], fun k _ hk => ?_⟩
  simp [Go.ChangeMaps.setBlock, Array.getElem?_setIfInBounds, Ne.symm hk]
theorem getSet {w : World} {r : Nat} {o o' : Obj} (h : w.heap[r]? = some o) : (Go.ChangeMaps.setBlock w r o').heap[r]? = some o' := by
  have := heap_lt h
  simp [Go.ChangeMaps.setBlock, Array.getElem?_setIfInBounds, this]
theorem opF_val {P : Program} {s : Sem Next} {w w' : World} {v : Value} (hr : s.run P w = .ok (.value v) w') {K : Value → World → Prop} (hK : K v w') : opF P s w (.one (.leaf .val)) K :=
  ⟨[.val v], w', hr, by simpa [app, RT.kds, Sh.kds, LV.as, LV.toV] using hK⟩
def iterMu (es : Array MapEntry) (ib : Nat) (u : World) : Nat := match u.heap[ib]? with
  | some (.mapIter _ _ seen _) => (leftOf es seen).size
  | _ => 0
def doneZ (Z : List (MapEntry × En)) (seen : Array Nat) : List (MapEntry × En) := Z.filter fun z => seen.contains z.1.born
theorem left_less {es : Array MapEntry} {seen : Array Nat} {e : MapEntry} (he : e ∈ (leftOf es seen).toList) : (leftOf es (seen.push e.born)).size < (leftOf es seen).size := by
  unfold leftOf at he ⊢
  have hmem : e ∈ es.toList ∧ seen.contains e.born = false := by simpa using he
  have : ∀ l : List MapEntry, e ∈ l → (l.filter fun x => !(seen.push e.born).contains x.born).length < (l.filter fun x => !seen.contains x.born).length := by
    intro l
    induction l with
    | nil => intro h; cases h
    | cons y l ih =>
      have hle : ∀ l : List MapEntry, (l.filter fun x => !(seen.push e.born).contains x.born).length ≤ (l.filter fun x => !seen.contains x.born).length := by
        intro l
        induction l with
        | nil => simp
        | cons z l ih =>
          simp only [List.filter_cons]
          by_cases hz : seen.contains z.born = true
          · have : (seen.push e.born).contains z.born = true := by simp at hz ⊢; exact .inl hz
            simp only [hz, this, Bool.not_true, Bool.false_eq_true, if_false]; exact ih
          · have hz : seen.contains z.born = false := by simpa using hz
            simp only [hz, Bool.not_false, if_true, List.length_cons]
            split
            · simp only [List.length_cons]; omega
            · omega
      intro h
      simp only [List.filter_cons]
      rcases List.mem_cons.1 h with rfl | h
      · have h1 : (seen.push e.born).contains e.born = true := by simp
        simp only [h1, hmem.2, Bool.not_true, Bool.not_false, Bool.false_eq_true, if_false, if_true, List.length_cons]
        have := hle l; omega
      · have := ih h
        by_cases hz : seen.contains y.born = true
        · have h2 : (seen.push e.born).contains y.born = true := by simp at hz ⊢; exact .inl hz
          simp only [hz, h2, Bool.not_true, Bool.false_eq_true, if_false]; exact this
        · have hz : seen.contains y.born = false := by simpa using hz
          simp only [hz, Bool.not_false, if_true, List.length_cons]
          split
          · simp only [List.length_cons]; omega
          · omega
  have h := this es.toList hmem.1
  have e1 : ∀ q : MapEntry → Bool, (es.filter q).size = (es.toList.filter q).length := fun q => by rw [← Array.length_toList, Array.toList_filter]
  rw [e1, e1]; exact h
set_option maxHeartbeats 1000000 in
/-- List -/
theorem list_ok (h : StA w0 m 0 g w) (pre : Str) (hpre : pre.length ≤ 4611686018427387904) (hnd : (g.abs.map (·.1)).Nodup) (hlen : g.ents.length ≤ 1073741824) {K : Sl → World → Prop} (hK : ∀ t ro g' w', Nx w0 (m ++ ro) 0 g w g.abs g.mt g' w' → VecL ro EBi t (listA pre g.abs) → K t w') :
    callK Try.prog 24 [.leaf (.ptr (some (g.bs, 0))), .leaf (.str pre)] w (.one (.leaf .sl)) K := by
  refine go_store_Store_List _ _ _ _ ?_
  refine ifK_f rfl (dr_some (lock_ok h fun w1 h1 hM1 => dr_some (dr_some (h1.st.ldHd (k := .map) (some g.r) rfl ?_))))
  obtain ⟨es, c, hh, hl, hbnd, hblt⟩ := h1.st.nm
  refine opF_val (v := .pointer (some ⟨w1.heap.size, 0, none⟩)) (w' := w1.alloc (.mapIter (some g.r) c #[] c)) ?_ ?_
  · unfold vS Instr.range
    simp only [LV.toV, Sem.run_bind, run_underlying Try.underlying73, Result.andThen_ok, getMap hh, Sem.run_pure, run_newObj]
    rfl
  generalize hib : w1.heap.size = ib
  have hit0 : (w1.alloc (.mapIter (some g.r) c #[] c)).heap[ib]? = some (.mapIter (some g.r) c #[] c) := by rw [← hib]; exact World.alloc_heap_new w1 _
  have hst2 : StA w0 m 1 g (w1.alloc (.mapIter (some g.r) c #[] c)) := h1.st.quiet (Mod.alloc _ _ _)
  have hh2 : (w1.alloc (.mapIter (some g.r) c #[] c)).heap[g.r]? = some (.map es c) := (Go.Vw.heap_alloc_old (heap_lt hh)).trans hh
  have hM2 : Mod (fun b => b = g.bs) w (w1.alloc (.mapIter (some g.r) c #[] c)) := hM1.trans (Mod.alloc F0 _ _) (fun _ _ h => h) fun _ _ h => h.elim
  have hibge : w0.heap.size ≤ ib := by rw [← hib]; exact h1.st.side.mod.size
  have hibw : w.heap.size ≤ ib := by rw [← hib]; exact hM1.size
  generalize w1.alloc (.mapIter (some g.r) c #[] c) = w2 at hit0 hst2 hh2 hM2
  have hne : ib ≠ g.r := fun e => by rw [e, hh2] at hit0; cases hit0
  have hzl : es.toList.length = g.ents.length := by have := congrArg List.length hl; simpa [SG.names] using this
  let Z : List (MapEntry × En) := es.toList.zip g.ents
  have hZ1 : Z.map (·.1) = es.toList := List.map_fst_zip (by omega)
  have hZ2 : Z.map (·.2) = g.ents := List.map_snd_zip (by omega)
  have hZk : ∀ z ∈ Z, z.1.key = strV z.2.name ∧ z.1.val = ptrV z.2.bb := by
    intro z hz
    obtain ⟨i, hi⟩ := List.mem_iff_getElem?.1 hz
    have e1 : es.toList[i]? = some z.1 := by rw [← hZ1, List.getElem?_map, hi]; rfl
    have e2 : g.ents[i]? = some z.2 := by rw [← hZ2, List.getElem?_map, hi]; rfl
    have e3 := congrArg (fun l => l[i]?) hl
    simp only [List.getElem?_map, SG.names, e1, e2, Option.map_some, Option.some.injEq, Prod.mk.injEq] at e3
    exact e3
  have hZn : (Z.map fun z => z.1.born).Nodup := by
    have : (Z.map fun z => z.1.born) = es.toList.map (·.born) := by rw [← hZ1, List.map_map]; rfl
    rw [this]; exact hbnd
  let fz : MapEntry × En → Option Info := fun z => infoOf pre (z.2.name, z.2.bl)
  have hall : Z.filterMap fz = g.abs.filterMap (infoOf pre) := by
    have : Z.filterMap fz = (Z.map (·.2)).filterMap fun x => infoOf pre (x.name, x.bl) := by rw [List.filterMap_map]; rfl
    rw [this, hZ2]
    unfold SG.abs
    rw [List.filterMap_map]; rfl
  refine join1 (fun (t : Sl) u => ∃ ro L, StA w0 (m ++ ro) 1 g u ∧ VecL ro EBi t L ∧ L.Perm (g.abs.filterMap (infoOf pre)) ∧ Mod (fun b => b = g.bs) w u ∧ ∀ x, Ks ro x → w.heap.size ≤ x) ?_ ?_
  · intro k13 hk13
    refine loop1 (k := .sl) (fun (t : Sl) u => ∃ seen ro L, u.heap[ib]? = some (.mapIter (some g.r) c seen c) ∧ u.heap[g.r]? = some (.map es c) ∧ StA w0 (m ++ ro) 1 g u ∧ VecL ro EBi t L ∧ L.Perm ((doneZ Z seen).filterMap fz) ∧ Mod (fun b => b = g.bs) w u ∧ ∀ x, Ks ro x → w.heap.size ≤ x)
      (fun _ u => iterMu es ib u) (x := ⟨none, 0, 0⟩) rfl ⟨#[], [], [], hit0, hh2, by rw [List.append_nil]; exact hst2, VecL.nil EBi, by simp [doneZ], hM2, fun x hx => by obtain ⟨q, hq, _⟩ := hx; cases hq⟩ ?_
    rintro t u ⟨seen, ro, L, hit, hmap, hst, hv, hL, hM, hfr⟩
    have hLl : L.length ≤ g.ents.length := by
      rw [hL.length_eq]
      refine Nat.le_trans (List.length_filterMap_le _ _) (Nat.le_trans (List.length_filter_le _ _) ?_)
      rw [← hZ2, List.length_map]; exact Nat.le_refl _
    refine join1 (fun b v => (b = false ∧ v = u ∧ (leftOf es seen).size = 0) ∨ (b = true ∧ ∃ e ∈ (leftOf es seen).toList, ∃ u1, (u1 = u ∨ u1 = u.drew) ∧ v = Go.ChangeMaps.setBlock u1 ib (.mapIter (some g.r) c (seen.push e.born) c))) ?_ ?_
    · intro k17 hk17
      rcases run_next_at (P := Try.prog) u 0 ib g.r c c seen es c hit hmap hblt (Nat.le_refl _) with ⟨h0, hr⟩ | ⟨e, he, u1, hu1, hr⟩
      · refine .inl ⟨u, ?_, hk17 _ _ (.inl ⟨rfl, rfl, h0⟩)⟩
        unfold vS; simp only [Sem.run_bind, hr, Result.andThen_ok, Sem.run_pure]
      · refine .inr ⟨e.key, e.val, _, ?_, hk17 _ _ (.inr ⟨rfl, e, he, u1, hu1, rfl⟩)⟩
        unfold vS; simp only [Sem.run_bind, hr, Result.andThen_ok, Sem.run_pure]
    rintro b v (⟨rfl, rfl, h0⟩ | ⟨rfl, e, he, u1, hu1, rfl⟩)
    · refine ifK_f rfl (hk13 _ _ ⟨ro, L, hst, hv, ?_, hM, hfr⟩)
      have : doneZ Z seen = Z := by
        unfold doneZ
        rw [List.filter_eq_self]
        intro z hz
        have hze : z.1 ∈ es.toList := by rw [← hZ1]; exact List.mem_map_of_mem hz
        cases hcn : seen.contains z.1.born with
        | true => rfl
        | false =>
          have : z.1 ∈ (leftOf es seen).toList := by
            unfold leftOf
            have hze' : z.1 ∈ es := by simpa using hze
            simp only [Array.toList_filter, List.mem_filter, hze, hcn, Bool.not_false, and_self]
          rw [Array.eq_empty_of_size_eq_zero h0] at this
          simp at this
      rw [this, hall] at hL
      exact hL
    · refine ifK_t rfl ?_
      have hmu := left_less he
      have hmem : e ∈ es.toList ∧ seen.contains e.born = false := by
        unfold leftOf at he
        simpa using he
      have hMu : Mod F0 u u1 := by rcases hu1 with rfl | rfl; exact Mod.refl _ _; exact mod_drew u
      have hitu1 : u1.heap[ib]? = some (.mapIter (some g.r) c seen c) := (hMu.block ib (heap_lt hit) id).trans hit
      have hMs : Mod (fun k => k = ib) u1 (Go.ChangeMaps.setBlock u1 ib (.mapIter (some g.r) c (seen.push e.born) c)) := modSet
      have hst3 := (hst.quiet hMu).farMod hitu1 rfl hne hibge hMs
      have hit3 := getSet (o' := .mapIter (some g.r) c (seen.push e.born) c) hitu1
      have hmap3 : (Go.ChangeMaps.setBlock u1 ib (.mapIter (some g.r) c (seen.push e.born) c)).heap[g.r]? = some (.map es c) := (hMs.block g.r (heap_lt ((hMu.block g.r (heap_lt hmap) id).trans hmap)) (Ne.symm hne)).trans ((hMu.block g.r (heap_lt hmap) id).trans hmap)
      have hM3 : Mod (fun b => b = g.bs) w (Go.ChangeMaps.setBlock u1 ib (.mapIter (some g.r) c (seen.push e.born) c)) := (hM.trans hMu (fun _ _ h => h) fun _ _ h => h.elim).trans hMs (fun _ _ h => h) fun x hx e => absurd hx (by omega)
      generalize Go.ChangeMaps.setBlock u1 ib (.mapIter (some g.r) c (seen.push e.born) c) = u3 at hst3 hit3 hmap3 hM3
      obtain ⟨z, hz, hze⟩ : ∃ z ∈ Z, z.1 = e := by
        have : e ∈ Z.map (·.1) := by rw [hZ1]; exact hmem.1
        obtain ⟨z, hz, h⟩ := List.mem_map.1 this
        exact ⟨z, hz, h⟩
      obtain ⟨hk1, hk2⟩ := hZk z hz
      have hdone : ((doneZ Z (seen.push e.born)).filterMap fz).Perm ((z :: doneZ Z seen).filterMap fz) := by
        refine List.Perm.filterMap _ ?_
        have h := filter_more (f := fun z : MapEntry × En => z.1.born) (p := fun n => seen.contains n) hZn hz (by rw [hze]; exact hmem.2)
        have e1 : doneZ Z (seen.push e.born) = Z.filter fun y => seen.contains y.1.born || y.1.born == z.1.born := by
          unfold doneZ
          apply List.filter_congr
          intro x _
          rw [hze]
          by_cases hx : x.1.born = e.born
          · simp [hx]
          · simp [hx]
        rw [e1]; exact h
      have hmuu : iterMu es ib u = (leftOf es seen).size := by unfold iterMu; rw [hit]
      refine join1 (fun (t' : Sl) v => ∃ ro' L', v.heap[ib]? = some (.mapIter (some g.r) c (seen.push e.born) c) ∧ v.heap[g.r]? = some (.map es c) ∧ StA w0 (m ++ ro') 1 g v ∧ VecL ro' EBi t' L' ∧ L'.Perm ((doneZ Z (seen.push e.born)).filterMap fz) ∧ Mod (fun b => b = g.bs) w v ∧ ∀ x, Ks ro' x → w.heap.size ≤ x) ?_ ?_
      · intro k24 hk24
        refine ⟨e.key, e.val, u3, ?_, ?_⟩
        · have hr := run_entry_at (P := Try.prog) u3 ib g.r c seen es c e hit3 hmap3 hmem.1 hbnd
          unfold vS; simp only [Sem.run_bind, hr, Result.andThen_ok, Sem.run_pure]
        refine ⟨z.2.name, by rw [← hze, hk1]; rfl, some (z.2.bb, 0), by rw [← hze, hk2]; rfl, ?_⟩
        have hzg : z.2 ∈ g.ents := by rw [← hZ2]; exact List.mem_map_of_mem hz
        obtain ⟨A, B, hsplit⟩ := List.append_of_mem hzg
        refine hasPrefix_ok _ _ _ hpre ?_
        refine ifK_intro (fun hp => ?_) fun hp => ?_
        · have hp : hasP z.2.name pre = false := by simpa using hp
          refine hk24 _ _ ⟨ro, L, hit3, hmap3, hst3, hv, hL.trans (List.Perm.trans ?_ hdone.symm), hM3, hfr⟩
          have : fz z = none := by show infoOf pre (z.2.name, z.2.bl) = none; unfold infoOf; rw [if_neg (by rw [hp]; simp)]
          rw [List.filterMap_cons, this]
        · have hp : hasP z.2.name pre = true := by simpa using hp
          have hok := hst3.okOf hsplit
          refine dr_some (hst3.ldE hsplit (k := .bool) z.2.bl.out rfl ?_)
          refine join1 (fun (n : Int) v => n = (if z.2.bl.out then 2 else 1) ∧ v = u3) ?_ ?_
          · intro k35 hk35
            exact ifK_intro (fun ho => hk35 _ _ ⟨by rw [ho]; rfl, rfl⟩) fun ho => hk35 _ _ ⟨by rw [ho]; rfl, rfl⟩
          rintro n v ⟨rfl, rfl⟩
          refine dr_some (hst3.ldE hsplit (k := .sl) z.2.sl rfl ?_)
          rw [(hst3.vecOf hsplit).1]
          have hfz : fz z = some (z.2.name, (if z.2.bl.out then 2 else 1), (z.2.bl.data.length : Int)) := by show infoOf pre (z.2.name, z.2.bl) = _; unfold infoOf; rw [if_pos hp]
          refine hst3.apart.alK fun b41 w42 _ hA42 hM42 => ?_
          have hb41 : Blk w42 b41 (EBi.f (z.2.name, (if z.2.bl.out then 2 else 1), (z.2.bl.data.length : Int))) := hA42.own (b41, _) (by simp [EBi, LV.toV])
          have hA43 : At w0 F0 (((m ++ [g.hd 1]) ++ owns g.ents) ++ ro) w42 := hA42.sub (List.sublist_append_left _ _)
          have hit42 : w42.heap[ib]? = some (.mapIter (some g.r) c (seen.push e.born) c) := (hM42.block ib (heap_lt hit3) id).trans hit3
          have hmap42 : w42.heap[g.r]? = some (.map es c) := (hM42.block g.r (heap_lt hmap3) id).trans hmap3
          refine appL2 hA43 hv (rd_one hb41) rfl rfl (by simp; omega) fun t' old ro' w44 hA44' hv44 hM44 _ hkeys => ?_
          have hA44 : At w0 F0 (((m ++ [g.hd 1]) ++ owns g.ents) ++ ro') w44 := hA44'.sub ((List.sublist_append_left _ old).append (List.Sublist.refl _))
          have hni : ¬ Ks ro ib := by
            rintro ⟨q, hq, e⟩; exact far_cell hit42 rfl (e ▸ hA43.own q (List.mem_append_right _ hq))
          have hnr : ¬ Ks ro g.r := by
            rintro ⟨q, hq, e⟩; exact far_cell hmap42 rfl (e ▸ hA43.own q (List.mem_append_right _ hq))
          have hnm : Names w44 g.r g.names := (hst3.nm.keep hM42 id).keep hM44 hnr
          refine hk24 _ _ ⟨ro', L ++ [(z.2.name, (if z.2.bl.out then 2 else 1), (z.2.bl.data.length : Int))], (hM44.block ib (heap_lt hit42) hni).trans hit42, (hM44.block g.r (heap_lt hmap42) hnr).trans hmap42, StA.sided hA44 hnm hst3.old hst3.vec, hv44, ?_, ?_, ?_⟩
          · refine List.Perm.trans ?_ hdone.symm
            rw [List.filterMap_cons, hfz]
            refine List.Perm.trans List.perm_append_comm ?_
            exact List.Perm.cons _ hL
          · refine (hM3.trans hM42 (fun _ _ h => h) fun _ _ h => h.elim).trans hM44 (fun _ _ h => h) fun x hx hk => ?_
            have := hfr x hk; omega
          · intro x hx
            rcases hkeys x hx with h | h
            · exact hfr x h
            · have := hM3.size; have := hM42.size; omega
      · rintro t' v ⟨ro', L', h1', h2', h3', h4', h5', h6', h7'⟩
        refine ⟨⟨seen.push e.born, ro', L', h1', h2', h3', h4', h5', h6', h7'⟩, ?_⟩
        rw [hmuu]
        unfold iterMu
        rw [h1']; exact hmu
  · rintro t w44 ⟨ro, L, hst, hv, hL, hM, hfr⟩
    have hLl : L.length ≤ g.ents.length := by
      rw [hL.length_eq]
      refine Nat.le_trans (List.length_filterMap_le _ _) ?_
      unfold SG.abs; rw [List.length_map]; exact Nat.le_refl _
    refine sort_ok hst.apart hv (by omega) fun ro' w5 L' hA5 hv5 hp5 hs5 hM5 => ?_
    have hnr : ¬ Ks ro g.r := by
      rintro ⟨q, hq, e⟩; exact hst.nm.far (e ▸ hst.apart.own q (List.mem_append_right _ hq))
    have hst5 := StA.sided (ro := ro') hA5 (hst.nm.keep hM5 hnr) hst.old hst.vec
    have hLA : L' = listA pre g.abs := by
      refine sorted_one hs5 (sortI_sorted _) (hp5.trans (hL.trans (sortI_perm _).symm)) ?_
      have := infos_nodup (pre := pre) hnd
      exact ((hp5.trans hL).map _).nodup_iff.2 this
    rw [hLA] at hv5
    have hnx : Nx w0 (m ++ ro') 1 g w g.abs g.mt g w5 := ⟨hst5, rfl, rfl, (hM.mono fun x _ e => e ▸ D_bs g).trans hM5 (fun _ _ h => h) fun x hx hk => by have := hfr x hk; omega, rfl, rfl⟩
    exact unlock_ok hnx fun w6 h6 _ => hK t ro' _ _ h6 hv5
end
end Go.Proofs.Ytjldecomhpngmaa
