/- Names in order; the library's sort over infos. -/
import Derived.Test.YtjldecomhpngmaaSO
import Derived.Test.YtjldecomhpngmaaVO
namespace Go.Proofs.Ytjldecomhpngmaa
open Go.Vw

/-! ### the order of names -/
def sl (a b : Str) : Bool := Op.bytesLess a b
theorem sl_irr : ∀ a : Str, sl a a = false
  | [] => rfl
  | x :: a => by
    have := sl_irr a
    unfold sl at this ⊢
    simp [Op.bytesLess, this]
theorem sl_trans : ∀ a b c : Str, sl a b = true → sl b c = true → sl a c = true
  | _, [], _, h, _ => by simp [sl, Op.bytesLess] at h
  | _, _ :: _, [], _, h => by simp [sl, Op.bytesLess] at h
  | [], _ :: _, _ :: _, _, _ => rfl
  | x :: a, y :: b, z :: c, h1, h2 => by
    have ih := sl_trans a b c
    unfold sl at h1 h2 ih ⊢
    simp only [Op.bytesLess, Bool.or_eq_true, decide_eq_true_eq, Bool.and_eq_true, beq_iff_eq] at h1 h2 ⊢
    rcases h1 with h1 | ⟨rfl, h1⟩
    · rcases h2 with h2 | ⟨rfl, h2⟩
      · exact .inl (UInt8.lt_trans h1 h2)
      · exact .inl h1
    · rcases h2 with h2 | ⟨rfl, h2⟩
      · exact .inl h2
      · exact .inr ⟨rfl, ih h1 h2⟩
theorem sl_tot : ∀ a b : Str, sl a b = false → sl b a = false → a = b
  | [], [], _, _ => rfl
  | [], _ :: _, h, _ => by simp [sl, Op.bytesLess] at h
  | _ :: _, [], _, h => by simp [sl, Op.bytesLess] at h
  | x :: a, y :: b, h1, h2 => by
    have ih := sl_tot a b
    unfold sl at h1 h2 ih
    simp only [Op.bytesLess, Bool.or_eq_false_iff, decide_eq_false_iff_not, Bool.and_eq_false_imp, beq_iff_eq] at h1 h2
    have hxy : x = y := UInt8.le_antisymm (UInt8.not_lt.1 h2.1) (UInt8.not_lt.1 h1.1)
    rw [hxy, ih (h1.2 hxy) (h2.2 hxy.symm)]
theorem sl_ntrans (a b c : Str) (h1 : sl a b = false) (h2 : sl b c = false) : sl a c = false := by
  cases h : sl a c with
  | false => rfl
  | true =>
    exfalso
    cases hb : sl b a with
    | false => rw [sl_tot a b h1 hb, h2] at h; cases h
    | true => rw [sl_trans b a c hb h] at h2; cases h2
theorem cmp_sl : ∀ a b : Str, decide (Lib.compareBytes a b < 0) = sl a b
  | [], [] => rfl
  | [], _ :: _ => rfl
  | _ :: _, [] => rfl
  | x :: a, y :: b => by
    have ih := cmp_sl a b
    unfold sl at ih ⊢
    simp only [Lib.compareBytes, Op.bytesLess]
    by_cases h1 : x < y
    · simp [h1]
    · by_cases h2 : y < x
      · have h3 : ¬ x = y := fun h => by subst h; exact UInt8.lt_irrefl _ h2
        simp [h1, h2, h3]
      · have : x = y := UInt8.le_antisymm (UInt8.not_lt.1 h2) (UInt8.not_lt.1 h1)
        subst this
        simp [h1, ih]
abbrev Info := Str × Int × Int
def Sorted (l : List Info) : Prop := l.Pairwise fun x y => sl y.1 x.1 = false
theorem sorted_one {l1 l2 : List Info} (h1 : Sorted l1) (h2 : Sorted l2) (hp : l1.Perm l2) (hn : (l1.map (·.1)).Nodup) : l1 = l2 := by
  refine List.Perm.eq_of_pairwise (le := fun x y : Info => sl y.1 x.1 = false) (fun a b ha hb h h' => ?_) h1 h2 hp
  have hab : a.1 = b.1 := sl_tot _ _ h' h
  have hb' : b ∈ l1 := hp.symm.subset hb
  obtain ⟨i, hi⟩ := List.mem_iff_getElem?.1 ha
  obtain ⟨j, hj⟩ := List.mem_iff_getElem?.1 hb'
  have e1 : (l1.map (·.1))[i]? = some a.1 := by simp [hi]
  have e2 : (l1.map (·.1))[j]? = some a.1 := by simp [hj, hab]
  have hij : i = j := (List.getElem?_inj (by simpa using (List.getElem?_eq_some_iff.1 hi).1) hn).1 (e1.trans e2.symm)
  subst hij
  rw [hi] at hj; exact Option.some.inj hj
/-! ### the sort -/
open Go.Shelf Go.RowKit Go.Lib Go.Sort in
theorem swo_info : SWO (ltOf fun x y : Info => Lib.compareBytes x.1 y.1) where
  irrefl x := by unfold ltOf; rw [cmp_sl]; exact sl_irr _
  trans x y z h1 h2 := by unfold ltOf at *; rw [cmp_sl] at *; exact sl_trans _ _ _ h1 h2
  ntrans x y z h1 h2 := by unfold ltOf at *; rw [cmp_sl] at *; exact sl_ntrans _ _ _ h1 h2
theorem compare_ok (a b : Str) (w : World) {K : Int → World → Prop} (hK : K (Lib.compareBytes a b) w) : callK Try.prog 39 [.leaf (.str a), .leaf (.str b)] w (.one (.leaf (.int .i64))) K := by
  have h := Any.strings_Compare strCmp ⟨a.toArray⟩ ⟨b.toArray⟩ w
  refine Calls.mono h fun e w' ⟨he, hw⟩ => ⟨[.int .i64 (Lib.compareBytes a b)], he, ?_⟩
  subst hw; exact hK
open Go.Sort in
theorem closure_ok (x y : Info) (w : World) : Calls Try.prog 38 #[.agg (EBi.f x).toArray, .agg (EBi.f y).toArray] w fun e w' => e = .returned (.int .i64 (Lib.compareBytes x.1 y.1)) ∧ ∃ q os', w' = grow (w.drewN q) os' := by
  have h : callK Try.prog 38 [.agg [.str x.1, .int .i64 x.2.1, .int .i64 x.2.2], .agg [.str y.1, .int .i64 y.2.1, .int .i64 y.2.2]] w (.one (.leaf (.int .i64))) fun n w' => n = Lib.compareBytes x.1 y.1 ∧ ∃ q os', w' = grow (w.drewN q) os' := by
    refine go_store_Store_List_1 _ _ _ _ _ _ _ _ ?_
    have hA1 := (At.init w fun _ => False).al ([LV.toV (.str x.1), LV.toV (.int .i64 x.2.1), LV.toV (.int .i64 x.2.2)]) 59
    have hA2 := hA1.al ([LV.toV (.str y.1), LV.toV (.int .i64 y.2.1), LV.toV (.int .i64 y.2.2)]) 59
    show Go.Vw.ld _ .str w.heap.size 0 _
    refine hA2.ld 0 (k := .str) x.1 rfl rfl (hA2.ld 1 (k := .str) y.1 rfl rfl ?_)
    refine compare_ok _ _ _ ⟨rfl, 0, #[.cells [LV.toV (.str x.1), LV.toV (.int .i64 x.2.1), LV.toV (.int .i64 x.2.2)].toArray 59, .cells [LV.toV (.str y.1), LV.toV (.int .i64 y.2.1), LV.toV (.int .i64 y.2.2)].toArray 59], ?_⟩
    rw [alloc_eq_grow, alloc_eq_grow, grow_grow]; rfl
  refine Calls.mono h fun e w' ⟨l, he, hk⟩ => ?_
  cases l with
  | nil => exact hk.elim
  | cons z l =>
    simp only [RT.kds, Sh.kds, app] at hk
    cases hz : z.as (.int .i64) with
    | none => rw [hz] at hk; exact hk.elim
    | some n =>
      rw [hz] at hk
      cases l with
      | cons _ _ => exact hk.elim
      | nil =>
        obtain ⟨rfl, hq⟩ := hk
        refine ⟨?_, hq⟩
        rw [he]
        have := LV.as_toV hz
        show Ending.returned z.toV = _
        rw [← this]; rfl
open Go.Shelf Go.RowKit Go.Lib Go.Sort in
theorem flat_cells {α : Type} [Inhabited α] (E : Enc α) (d : Array α) : flatK E.f E.n d = (E.cells d.toList).toArray := by
  apply Array.ext
  · simp [E.cells_length]
  · intro i h1 h2
    rw [size_flatK] at h1
    have hq : i / E.n < d.size := (Nat.div_lt_iff_lt_mul E.pos).2 h1
    have hr : i % E.n < E.n := Nat.mod_lt _ E.pos
    have hdm : i / E.n * E.n + i % E.n = i := by rw [Nat.mul_comm]; exact Nat.div_add_mod i E.n
    have hg := E.cells_get d.toList (i / E.n) (i % E.n) hr
    rw [hdm] at hg
    have e1 : (flatK E.f E.n d)[i]? = some ((E.f d[i / E.n]!)[i % E.n]!) := by
      unfold flatK
      simp [h1]
    have e2 : (E.cells d.toList).toArray[i]? = (E.f d[i / E.n])[i % E.n]? := by
      rw [List.getElem?_toArray, hg, Array.getElem?_toList, Array.getElem?_eq_getElem hq]; rfl
    have hlen : i % E.n < (E.f d[i / E.n]).length := by rw [E.len]; exact hr
    rw [getElem!_pos d (i / E.n) hq, getElem!_pos (E.f d[i / E.n]) (i % E.n) hlen] at e1
    rw [List.getElem?_eq_getElem hlen] at e2
    rw [Array.getElem?_eq_getElem (by rw [size_flatK]; exact h1)] at e1
    rw [Array.getElem?_eq_getElem h2] at e2
    exact (Option.some.inj e1).trans (Option.some.inj e2).symm
open Go.Shelf Go.RowKit Go.Lib Go.Sort in
theorem sort_ok {w0 w : World} {D : Nat → Prop} {m ro : BL} {s : Sl} {l : List Info} (hA : At w0 D (m ++ ro) w) (hv : VecL ro EBi s l) (hl : l.length ≤ 1073741824) {K : World → Prop}
    (hK : ∀ ro' w' l', At w0 D (m ++ ro') w' → VecL ro' EBi s l' → l'.Perm l → Sorted l' → Mod (Ks ro) w w' → K w') :
    callK Try.prog 37 [.leaf (.sl s), .leaf (.val (.func (.func 38) #[] #[]))] w (.tup []) K := by
  have hsl : s.len = l.length := hv.1
  by_cases h0 : l = []
  · subst h0
    have hs0 : s.len = 0 := hsl
    have h := AnyF.slices_SortFunc_none sortBi (slA s.cap s.p) s.cap (.func (.func 38) #[] #[]) w
    rw [← hs0] at h
    refine Calls.mono h fun e w' ⟨he, hw⟩ => ⟨[], he, ?_⟩
    subst hw
    exact hK ro _ [] hA hv (List.Perm.refl _) List.Pairwise.nil (Mod.refl _ _)
  rcases hv.2.2 with ⟨rfl, _, _⟩ | ⟨b, rest, rfl, hp, hc⟩
  · exact absurd hv.l_nil h0
  have hb : Blk w b (EBi.cells l ++ rest) := hA.own (b, _) (by simp)
  have hcell : ∀ j, j < (EBi.cells l).length → w.cell? ⟨b, 0 + j, none⟩ = (EBi.cells l)[j]? := fun j hj => by
    rw [hb.cell, Nat.zero_add, List.getElem?_append_left hj]
  have hH : HoldsK EBi.f EBi.n w b 0 l.toArray := by
    unfold HoldsK
    rw [flat_cells]
    intro j hj
    have hj' : j < (EBi.cells l).length := by simpa using hj
    refine ⟨?_, hb.frz _⟩
    rw [hcell j hj', List.getElem?_eq_getElem hj']
    simp [hj']
  have eg : ∀ args w, (callFunc 38 args).run Try.prog w = .ok (.enter 38 args) w := enters_of Try.func38 (by kernel_rfl) rfl
  have hcon := AnyQ.slices_SortFunc sortBi 3 Try.isAgg59 Try.sizeOf59 EBi.f (fun _ => rfl) (fun x v hv => by simp [EBi, LV.toV] at hv; rcases hv with rfl | rfl | rfl <;> rfl) (fun x y : Info => Lib.compareBytes x.1 y.1) swo_info 38 #[] b 0 s.cap l.toArray w eg
    (fun m os dk _ x y => closure_ok x y _) hH hb.lt (by simp; omega)
  have hsp : (LV.sl s).toV = .slice (some ⟨b, 0, none⟩) l.toArray.size s.cap := by
    simp only [LV.toV, hp, slA_zero, hsl]; simp
  have hcon' : Calls Try.prog 37 #[(LV.sl s).toV, .func (.func 38) #[] #[]] w fun e w' => e = .returned (.tuple #[]) ∧ ∃ d' n os, PermIn 0 l.toArray.size l.toArray d' ∧ SortedIn (ltOf fun x y : Info => Lib.compareBytes x.1 y.1) 0 l.toArray.size d' ∧ w' = sortWorldK EBi.f 3 w b 0 n d' os := by
    rw [hsp]; exact hcon
  refine Calls.mono hcon' fun e w' ⟨he, d', n, os, hpm, hso, hw⟩ => ⟨[], he, ?_⟩
  have hsz : d'.size = l.length := by rw [hpm.1]; simp
  have hperm : d'.toList.Perm l := by
    have := hpm.2.2
    have e1 : d'.extract 0 l.toArray.size = d' := by rw [show l.toArray.size = d'.size by rw [hpm.1]]; simp
    have e2 : l.toArray.extract 0 l.toArray.size = l.toArray := by simp
    rw [e1, e2] at this
    simpa using this
  have hsorted : Sorted d'.toList := by
    unfold Sorted
    rw [List.pairwise_iff_getElem]
    intro i j hi hj hij
    have hi' : i < d'.size := by simpa using hi
    have hj' : j < d'.size := by simpa using hj
    have := hso i j (Nat.zero_le _) hij (by simp; omega)
    unfold ltOf at this
    rw [cmp_sl, getElem!_pos d' j hj', getElem!_pos d' i hi'] at this
    simpa using this
  have hcl : (EBi.cells d'.toList).length = (EBi.cells l).length := by rw [EBi.cells_length, EBi.cells_length]; simp [hsz]
  obtain ⟨te, hbe⟩ := hb
  have hlt : b < w.heap.size := (Array.getElem?_eq_some_iff.1 hbe).1
  subst hw
  have hheap : (sortWorldK EBi.f 3 w b 0 n d' os).heap = (w.heap.modify b (onCells (putCells id 0 (flatK EBi.f 3 d')))) ++ os := rfl
  have hput : putCells id 0 (flatK EBi.f 3 d') (EBi.cells l ++ rest).toArray = (EBi.cells d'.toList ++ rest).toArray := by
    have hfl : flatK EBi.f 3 d' = (EBi.cells d'.toList).toArray := flat_cells EBi d'
    rw [hfl]
    unfold putCells
    apply Array.ext
    · simp [hcl]
    · intro i h1 h2
      simp only [Array.getElem_mapIdx, List.getElem_toArray, List.size_toArray, Nat.zero_le, true_and, Nat.zero_add, Nat.sub_zero, id]
      by_cases hi : i < (EBi.cells d'.toList).length
      · rw [if_pos hi, List.getElem_append_left hi]
        simp [hi]
      · rw [if_neg hi, List.getElem_append_right (by omega), List.getElem_append_right (by omega)]
        simp [hcl]
  have hnew : (sortWorldK EBi.f 3 w b 0 n d' os).heap[b]? = some (.cells (EBi.cells d'.toList ++ rest).toArray te) := by
    rw [hheap, Array.getElem?_append_left (by simpa using hlt), Array.getElem?_modify, if_pos rfl, hbe]
    simp only [Option.map_some, onCells, hput]
  have hold : ∀ k, k < w.heap.size → k ≠ b → (sortWorldK EBi.f 3 w b 0 n d' os).heap[k]? = w.heap[k]? := by
    intro k hk hne
    rw [hheap, Array.getElem?_append_left (by simpa using hk), Array.getElem?_modify, if_neg (Ne.symm hne)]
  have hM : Mod (Ks [(b, EBi.cells l ++ rest)]) w (sortWorldK EBi.f 3 w b 0 n d' os) := by
    refine ⟨rfl, rfl, rfl, by rw [hheap]; simp, fun k hk hne => hold k hk fun e => hne ⟨_, List.mem_singleton.2 rfl, e.symm⟩⟩
  refine hK [(b, EBi.cells d'.toList ++ rest)] _ d'.toList ?_ ⟨by simp [hsl, hsz], hv.2.1, .inr ⟨b, rest, rfl, hp, ?_⟩⟩ hperm hsorted hM
  · refine ⟨hA.mod.trans hM (fun _ _ h => h) fun x hx hk => ?_, ?_, ?_, ?_⟩
    · obtain ⟨q, hq, rfl⟩ := hk
      exact hA.wr q (List.mem_append_right _ hq) hx
    · intro p hp
      rcases List.mem_append.1 hp with hp | hp
      · exact hM.blk (hA.own p (List.mem_append_left _ hp)) (hA.notKs hp)
      · simp at hp; subst hp; exact ⟨te, hnew⟩
    · have := hA.nodup
      simpa using this
    · intro p hp hlt
      rcases List.mem_append.1 hp with hp | hp
      · exact hA.wr p (List.mem_append_left _ hp) hlt
      · simp at hp; subst hp
        exact hA.wr (b, EBi.cells l ++ rest) (by simp) hlt
  · rw [List.length_append, hcl, ← List.length_append]; exact hc
end Go.Proofs.Ytjldecomhpngmaa
