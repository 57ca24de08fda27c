/- StoreScripts: the walk. -/
import Derived.Test.YtjldecomhpngmaaXJ
namespace Go.Proofs.Ytjldecomhpngmaa
open Go.Vw

structure Stp where
  op : Int
  n : Str
  N : Int
  j : Int
  s : Sl
  mask : Int
def ESp : Enc Stp := ⟨6, fun x => [(LV.int .i64 x.op).toV, (LV.str x.n).toV, (LV.int .i64 x.N).toV, (LV.int .i64 x.j).toV, (LV.sl x.s).toV, (LV.int .u32 x.mask).toV], fun _ => rfl, by decide, fun x v h => by simp at h; rcases h with rfl | rfl | rfl | rfl | rfl | rfl <;> rfl⟩
structure StpOk (w : World) (x : Stp) (d : List Int) : Prop where
  n : x.n.length ≤ 1048576
  rd : RdS w EU x.s d
  len : d.length ≤ 1048576
  byte : ∀ y ∈ d, 0 ≤ y ∧ y < 256
  N : x.N ≤ 9223372036854775807
  m0 : 0 ≤ x.mask
  m1 : x.mask < 4294967296
theorem real_names {k : Nat} {a b : Full} (h : RR k a b) (n : Str) : ∀ x ∈ RealR.list b n, x.1.length ≤ 40 := by
  intro x hx
  have hx : x ∈ b.1.filterMap (infoOf n) := hx
  obtain ⟨y, hy, e⟩ := List.mem_filterMap.1 hx
  unfold infoOf at e
  split at e
  · cases e
    exact h.nm y.1 (List.mem_map_of_mem (f := (·.1)) (h.perm.symm.subset hy))
  · cases e
theorem scripts_walk {w : World} {script : Sl} {L : List Stp} (hr : RdS w ESp script L) (hlen : L.length ≤ 1048576) (hst : ∀ x ∈ L, ∃ d, StpOk w x d) {K : Bool → World → Prop} (hK : ∀ w', Mod F0 w w' → K true w') : callK Try.prog 8 [.leaf (.sl script)] w (.one (.leaf .bool)) K := by
  refine go_winnowlaw5_StoreScripts _ _ _ ?_
  refine new_ok (At.init w F0) fun g w3 hg _ hga hgm _ _ _ => ?_
  refine ifK_f rfl (go_winnowref5_New _ _ ?_)
  refine hg.alS fun b1 w4 _ h4 _ => h4.alS fun b6 w7 _ h7 _ => ?_
  let r : RG := ⟨b1, ⟨none, 0, 0⟩, [], [], [], 0, 0, 0⟩
  have hrok : r.ok := ⟨VecL.nil ERb, rfl, Nat.zero_le _, fun k x ro h => (by have h : ([] : List (Str × Sl × Bl))[k]? = some x := h; simp at h)⟩
  have hT := real_two w g.bs b1
  have hJ0 : JJ w g.bs b1 ([], (0, 0, 0)) ([], (0, 0, 0)) ((WS.new b6 (some (g.bs, 0)) (some (b1, 0))).parts []).flatten w7 := by
    refine ⟨g, r, h7.permM ?_, hrok, rfl, rfl, by rw [hga, hgm], rfl⟩
    show List.Perm [(b6, _), (b1, _)] [(b1, _), (b6, _)]
    exact List.Perm.swap _ _ _
  have hR0 : RR 0 ([], (0, 0, 0)) ([], (0, 0, 0)) := ⟨List.Perm.refl _, by simp, by simp, rfl, Nat.le_refl _, (fun x hx => by cases hx), (fun x hx => by cases hx)⟩
  let I : Nat → World → Prop := fun j u => ∃ (a b : Full) (S : WS) (kept : BL), JJ w g.bs b1 a b (S.parts kept).flatten u ∧ S.ok kept ∧ S.p = some (g.bs, 0) ∧ S.q = some (b1, 0) ∧ S.bw = b6 ∧ RR j a b ∧ S.lB.length ≤ 2 * j ∧ S.lL.length ≤ 2 * j
  have hI0 : I 0 w7 := ⟨_, _, _, [], hJ0, WS.new_ok _ _ _ _, rfl, rfl, rfl, hR0, Nat.le_refl _, Nat.le_refl _⟩
  refine join0 (I L.length) ?_ ?_
  · intro k8 hk8
    refine loop1 (k := .int .i64) (fun (i : Int) u => ∃ j : Nat, i = j ∧ j ≤ L.length ∧ I j u) (fun i _ => (L.length - i).toNat) (x := 0) rfl ⟨0, rfl, Nat.zero_le _, hI0⟩ ?_
    rintro i u ⟨j, rfl, hj, hI⟩
    rw [hr.len]
    refine ifK_intro (fun h => ?_) fun h => ?_
    rotate_left
    · have hge : L.length ≤ j := dge h
      have : j = L.length := by omega
      subst this
      exact hk8 _ hI
    have hlt : j < L.length := dlt h
    have hx : L[j]? = some L[j] := List.getElem?_eq_getElem hlt
    obtain ⟨d, hok⟩ := hst L[j] (List.getElem_mem hlt)
    generalize L[j] = x at hx hok
    obtain ⟨a, b, S, kept, hJ, hS, hp, hq, hb, hR, hlB, hlL⟩ := hI
    have hru : RdS u ESp script L := hr.keep (hT.at_ hJ).mod fun _ _ => id
    refine hru.ix rfl rfl hx fun bb o _ hc => ld_cell (k := .int .i64) x.op (hc 0 (by decide)) (ld_cell (k := .str) x.n (hc 1 (by decide)) (ld_cell (k := .int .i64) x.N (hc 2 (by decide)) (ld_cell (k := .int .i64) x.j (hc 3 (by decide)) (ld_cell (k := .sl) x.s (hc 4 (by decide)) (ld_cell (k := .int .u32) x.mask (hc 5 (by decide)) ?_)))))
    rw [← hb]
    refine told_gen hT real_alike hJ hS hp hq hR (by omega) (by omega) (by omega) (by have := hok.n; omega) hok.rd hok.len hok.byte hok.N hok.m0 hok.m1 fun a' b' S' kept' w' hJ' hS' hp' hq' hb' hR' hlB' hlL' => ?_
    have hI' : I (j + 1) w' := ⟨a', b', S', kept', hJ', hS', hp'.trans hp, hq'.trans hq, hb'.trans hb, hR', by omega, by omega⟩
    refine join1 (fun c v => c = false ∧ v = w') ?_ ?_
    · intro k22 hk22
      refine ifK_f rfl ?_
      rw [← hb']
      exact stands_ok (hT.at_ hJ') hS' (by omega) (by omega) (hk22 _ _ ⟨rfl, rfl⟩)
    rintro c v ⟨rfl, rfl⟩
    exact ifK_f rfl ⟨⟨j + 1, step64 (by omega), by omega, hI'⟩, by rw [step64 (by omega)]; omega⟩
  rintro u ⟨a, b, S, kept, hJ, hS, hp, hq, hb, hR, hlB, hlL⟩
  refine join1 (fun c v => c = true ∧ Mod F0 w v) ?_ (by rintro c v ⟨rfl, h⟩; exact hK v h)
  intro k28 hk28
  rw [← hb]
  refine whole_ok hT real_alike real_names hJ hS hp hq hR (by omega) fun a' b' kept' w' hJ' hS' => ?_
  refine ifK_t rfl (stands_ok (hT.at_ hJ') hS' (by omega) (by omega) (hk28 _ _ ⟨rfl, (hT.at_ hJ').mod⟩))
end Go.Proofs.Ytjldecomhpngmaa
