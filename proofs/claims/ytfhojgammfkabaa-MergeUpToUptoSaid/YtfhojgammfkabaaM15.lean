/- Sources out of lists; the little merge. -/
import Derived.Test.YtfhojgammfkabaaM14
namespace Go.Proofs.Ytfhojgammfkabaa
open Go.Vw

def mkF (xs : List (Sl × Int)) (Ls : List (List Thing)) (fbs : List Nat) (base : Nat) : Feeds := ⟨xs.length, fun i => fbs[i]?.getD 0, fun i => (xs[i]?.map (·.1)).getD ⟨none, 0, 0⟩, fun i => Ls[i]?.getD [], fun i => (xs[i]?.map (·.2)).getD 0, base⟩
theorem feeds_f {w : World} {s : Sl} {xs : List (Sl × Int)} (hr : RdS w ES s xs) (Ls : List (List Thing)) (hl : Ls.length = xs.length) (hrd : ∀ (i : Nat) x l, xs[i]? = some x → Ls[i]? = some l → RdS w ET x.1 l) (hlen : xs.length ≤ 1048576) (hL : ∀ l ∈ Ls, l.length ≤ 1152921504606846976)
    (base : Nat) (hbase : base ≤ w.heap.size) (hlow : ∀ x ∈ xs, ∀ b, rk x.1 b → b < base) {K : Sl → World → Prop}
    (hK : ∀ out w' fbs, (mkF xs Ls fbs base).Ok → (mkF xs Ls fbs base).I (fun _ => zFS) (fun b => ∃ i, i < xs.length ∧ b = (mkF xs Ls fbs base).fb i) w' → Vec w' EP out ((List.range xs.length).map fun i => some ((mkF xs Ls fbs base).fb i, 0)) →
      (∀ b, bk out b → w.heap.size ≤ b ∧ ∀ i, i < xs.length → b ≠ (mkF xs Ls fbs base).fb i) → (∀ i, i < xs.length → w.heap.size ≤ (mkF xs Ls fbs base).fb i) → Mod (fun _ => False) w w' → K out w') :
    callK Try.prog 20 [.leaf (.sl s)] w (.one (.leaf .sl)) K := by
  refine feeds_ok hr hlen fun out w' fbs hM hfl hnd hge hblk hv hbk => ?_
  have hfb : ∀ i, i < xs.length → fbs[i]? = some ((mkF xs Ls fbs base).fb i) := fun i hi => by
    show fbs[i]? = some (fbs[i]?.getD 0)
    rw [List.getElem?_eq_getElem (by omega)]; rfl
  have hmem : ∀ i, i < xs.length → (mkF xs Ls fbs base).fb i ∈ fbs := fun i hi => List.mem_of_getElem? (hfb i hi)
  have hx : ∀ i (hi : i < xs.length), xs[i]? = some xs[i] := fun i hi => List.getElem?_eq_getElem hi
  have hLi : ∀ i (hi : i < xs.length), Ls[i]? = some ((mkF xs Ls fbs base).L i) := fun i hi => by
    show Ls[i]? = some (Ls[i]?.getD [])
    rw [List.getElem?_eq_getElem (by omega)]; rfl
  have hsl : ∀ i (hi : i < xs.length), (mkF xs Ls fbs base).sl i = xs[i].1 := fun i hi => by
    show (xs[i]?.map (·.1)).getD _ = _
    rw [hx i hi]; rfl
  have hen : ∀ i (hi : i < xs.length), (mkF xs Ls fbs base).en i = xs[i].2 := fun i hi => by
    show (xs[i]?.map (·.2)).getD _ = _
    rw [hx i hi]; rfl
  have hps : fbs.map (fun b => (some (b, 0) : PA)) = (List.range xs.length).map fun i => some ((mkF xs Ls fbs base).fb i, 0) := by
    apply List.ext_getElem?
    intro i
    simp only [List.getElem?_map]
    by_cases hi : i < xs.length
    · rw [hfb i hi]; simp [hi]
    · rw [List.getElem?_eq_none (by omega), List.getElem?_eq_none (by simp; omega)]; rfl
  rw [hps] at hv
  refine hK out w' fbs ⟨?_, ?_, ?_, ?_⟩ ⟨fun b => Iff.rfl, ?_, ?_, fun i _ => Nat.zero_le _⟩ hv (fun b hb => ⟨(hbk b hb).1, fun i hi e => (hbk b hb).2 (e ▸ hmem i hi)⟩) (fun i hi => hge _ (hmem i hi)) hM
  · intro i j hi hj e
    have hi : i < xs.length := hi
    have hj : j < xs.length := hj
    exact (List.getElem?_inj (by omega : i < fbs.length) hnd).1 ((hfb i hi).trans (by rw [e]; exact (hfb j hj).symm))
  · intro i hi
    exact Nat.le_trans hbase (hge _ (hmem i hi))
  · intro i hi b hb
    have hi' : i < xs.length := hi
    rw [hsl i hi'] at hb
    exact hlow _ (List.getElem_mem hi') b hb
  · intro i hi
    exact hL _ (List.mem_of_getElem? (hLi i hi))
  · intro i hi
    have hi' : i < xs.length := hi
    have := hblk i _ _ (hfb i hi') (hx i hi')
    show Blk w' _ [(LV.sl ((mkF xs Ls fbs base).sl i)).toV, .int .i64 ((mkF xs Ls fbs base).en i), .int .i64 ((0 : Nat) : Int), .int .i64 0, .bool false, .bool false]
    rw [hsl i hi', hen i hi']; exact this
  · intro i hi
    have hi' : i < xs.length := hi
    rw [hsl i hi']
    exact (hrd i _ _ (hx i hi') (hLi i hi')).keep hM fun _ _ => id
def headL : List (List Thing) := [[(1, 1), (4, 2)], [(1, 3), (2, 4)]]
theorem head_ok {w : World} {K : Bool → World → Prop} (hK : ∀ w', Mod (fun _ => False) w w' → K true w') : callK Try.prog 22 [] w (.one (.leaf .bool)) K := by
  refine go_winnowlaw11_head _ _ ?_
  unfold S_winnowlaw11_head
  refine (At.init w fun _ => False).alK fun b1 w1 hb1 h1 _ => h1.alK fun b3 w2 hb3 h2 _ => ?_
  refine h2.st 1 rfl (show (2 : Nat) ≤ 2 by decide) fun w3 h3 _ => ?_
  refine h3.alK fun b6 w4 hb6 h4 _ => h4.alK fun b8 w5 hb8 h5 _ => ?_
  refine h5.st 3 rfl (show (2 : Nat) ≤ 2 by decide) fun w6 h6 _ => ?_
  have h6 : At w (fun _ => False) [(b1, ET.cells [(1, 1), (4, 2)]), (b3, [(LV.sl ⟨some (b1, 0), 2, 2⟩).toV, .int .i64 0]), (b6, ET.cells [(1, 3), (2, 4)]), (b8, [(LV.sl ⟨some (b6, 0), 2, 2⟩).toV, .int .i64 0])] w6 := h6
  refine h6.ld 1 (k := .sl) ⟨some (b1, 0), 2, 2⟩ rfl rfl (h6.ld 1 (k := .int .i64) 0 rfl rfl (h6.ld 3 (k := .sl) ⟨some (b6, 0), 2, 2⟩ rfl rfl (h6.ld 3 (k := .int .i64) 0 rfl rfl ?_)))
  refine h6.alK fun b15 w7 hb15 h7 _ => ?_
  have h7 : At w (fun _ => False) [(b1, ET.cells [(1, 1), (4, 2)]), (b3, [(LV.sl ⟨some (b1, 0), 2, 2⟩).toV, .int .i64 0]), (b6, ET.cells [(1, 3), (2, 4)]), (b8, [(LV.sl ⟨some (b6, 0), 2, 2⟩).toV, .int .i64 0]), (b15, ES.cells [(⟨some (b1, 0), 2, 2⟩, 0), (⟨some (b6, 0), 2, 2⟩, 0)])] w7 := h7
  have rdb : ∀ {α : Type} (E : Enc α) (l : List α) (b : Nat), Blk w7 b (E.cells l) → RdS w7 E ⟨some (b, 0), l.length, l.length⟩ l := fun E l b hb => ⟨rfl, .inr ⟨b, 0, rfl, fun i hi => by rw [hb.cell, Nat.zero_add]⟩, Nat.le_refl _⟩
  have l1 := (h7.blk (i := 0) rfl).lt
  have l6 := (h7.blk (i := 2) rfl).lt
  refine feeds_f (rdb ES [(⟨some (b1, 0), 2, 2⟩, 0), (⟨some (b6, 0), 2, 2⟩, 0)] b15 (h7.blk (i := 4) rfl)) headL rfl ?_ (show (2 : Nat) ≤ 1048576 by decide) ?_ w7.heap.size (Nat.le_refl _) ?_ fun out w8 fbs hok hI hv hbk hge M8 => ?_
  · intro i x l hx hl
    match i with
    | 0 => cases hx; cases hl; exact rdb ET [(1, 1), (4, 2)] b1 (h7.blk (i := 0) rfl)
    | 1 => cases hx; cases hl; exact rdb ET [(1, 3), (2, 4)] b6 (h7.blk (i := 2) rfl)
    | i + 2 => cases hx
  · intro l hl
    simp [headL] at hl
    rcases hl with rfl | rfl <;> simp
  · intro x hx b hb
    obtain ⟨_, o, hb⟩ := hb
    simp at hx
    rcases hx with rfl | rfl
    · cases hb; exact l1
    · cases hb; exact l6
  have hA8 := h7.keep0 M8 fun _ => id
  refine run_ok hok (hv.rd) hI (by show (2 : Nat) ≤ 64; decide) (by show (4 : Nat) ≤ 1048576; decide) M8.size fun out2 w9 hout hob M9 => ?_
  have hrun : runM (mkF [(⟨some (b1, 0), 2, 2⟩, 0), (⟨some (b6, 0), 2, 2⟩, 0)] headL fbs w7.heap.size).n (mkF [(⟨some (b1, 0), 2, 2⟩, 0), (⟨some (b6, 0), 2, 2⟩, 0)] headL fbs w7.heap.size).en (mkF [(⟨some (b1, 0), 2, 2⟩, 0), (⟨some (b6, 0), 2, 2⟩, 0)] headL fbs w7.heap.size).L = ([(1, 1), (1, 3), (2, 4), (4, 2)], 0) := by rfl
  rw [hrun] at hout ⊢
  have hM : Mod (fun _ => False) w w9 := Mod.fresh (h7.mod.trans M8 (fun _ _ h => h) (fun _ _ h => h)) M9 fun x hx hb => by
    obtain ⟨i, hi, e⟩ := hb
    have := hge i hi
    have := h7.mod.size
    omega
  refine join1 (a := .bool) (fun b w' => b = true ∧ w' = w9) (fun k hk => ?_) ?_
  · refine ifK_t rfl (ifK_t rfl (ifK_t (by rw [hout.len]; rfl) ?_))
    refine hout.ix rfl (k := 0) rfl rfl fun b o _ hc => ld_cell (k := .int .i64) 1 (hc 1 (by decide)) (ifK_t rfl ?_)
    refine hout.ix rfl (k := 1) rfl rfl fun b o _ hc => ld_cell (k := .int .i64) 3 (hc 1 (by decide)) (ifK_t rfl ?_)
    refine hout.ix rfl (k := 2) rfl rfl fun b o _ hc => ld_cell (k := .int .i64) 4 (hc 1 (by decide)) (ifK_t rfl ?_)
    refine hout.ix rfl (k := 3) rfl rfl fun b o _ hc => ld_cell (k := .int .i64) 2 (hc 1 (by decide)) (hk _ _ ⟨rfl, rfl⟩)
  · rintro _ w10 ⟨rfl, hw⟩
    rw [hw]; exact hK _ hM
end Go.Proofs.Ytfhojgammfkabaa
