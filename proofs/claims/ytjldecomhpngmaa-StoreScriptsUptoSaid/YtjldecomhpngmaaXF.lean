/- The document's own store: Resize. -/
import Derived.Test.YtjldecomhpngmaaXE
namespace Go.Proofs.Ytjldecomhpngmaa
open Go.Vw

section
variable {w0 w : World} {D : Nat → Prop} {g : RG}
theorem rresize_ok (hA : At w0 D g.parts.flatten w) (hg : g.ok) (n : Str) (hn : n.length ≤ 1099511627776) (d : Int) {K : Int → World → Prop} (hK : ∀ g' w', RN w0 D g (resizeA n d g.abs).2 g.mt g' w' → K (resizeA n d g.abs).1 w') :
    callK Try.prog 53 [.leaf (.ptr (some (g.q, 0))), .leaf (.str n), .leaf (.int .i64 d)] w (.one (.leaf (.int .i64))) K := by
  refine go_winnowref5_Store_Resize _ _ _ _ _ ?_
  refine rask_ok hA hg n hn (fun c hc hc2 _ => ?_) fun i x hx hxn hpre hask => ?_
  · have e1 : resizeA n d g.abs = (c, g.abs) := by unfold resizeA; rw [hc]
    rw [e1] at hK
    exact ifK_t (by simpa using askA_c hc) (hK _ _ (rself hA hg))
  refine ifK_f rfl (dr_some (RG.ldQ hA (k := .sl) g.lS rfl (rix hA hg hx fun bL hp hkb => dr_some ?_)))
  obtain ⟨hok, hsl⟩ := RG.okE hg hx
  have hk3 := hok.len
  have hi : i < g.es.length := (List.getElem?_eq_some_iff.1 hx).1
  have hri : g.ros[i]? = some (g.ros[i]'(by rw [hg.n]; exact hi)) := List.getElem?_eq_getElem (by rw [hg.n]; exact hi)
  refine RG.ldE hA hg.vL hx hp (by decide) (k := .sl) x.2.1 rfl ?_
  rw [hsl]
  have hs1 : w64 (0 - (x.2.2.data.length : Int)) = -(x.2.2.data.length : Int) := by rw [w64_in (by omega) (by omega)]; omega
  have hs2 : w64 (268435456 - (x.2.2.data.length : Int)) = 268435456 - (x.2.2.data.length : Int) := by rw [w64_in (by omega) (by omega)]
  rw [hs1, hs2]
  refine join1 (fun c u => u = w ∧ (c = true ↔ d < -(x.2.2.data.length : Int) ∨ 268435456 - (x.2.2.data.length : Int) < d)) ?_ ?_
  · intro k2 hk2
    refine ifK_intro (fun h2 => hk2 _ _ ⟨rfl, ?_⟩) fun h2 => hk2 _ _ ⟨rfl, ?_⟩
    · have h2 : d < -(x.2.2.data.length : Int) := by simpa using h2
      exact ⟨fun _ => .inl h2, fun _ => rfl⟩
    · have h2 : ¬ d < -(x.2.2.data.length : Int) := by simpa using h2
      rw [decide_eq_true_eq]; omega
  rintro c u ⟨rfl, hc⟩
  refine ifK_intro (fun h2 => ?_) fun h2 => ?_
  · have e1 : resizeA n d g.abs = (56, g.abs) := by unfold resizeA; rw [hask]; simp only; rw [if_pos (hc.1 h2)]
    rw [e1] at hK
    exact hK _ _ (rself hA hg)
  have h2 : ¬ (d < -(x.2.2.data.length : Int) ∨ 268435456 - (x.2.2.data.length : Int) < d) := fun x => by rw [hc.2 x] at h2; cases h2
  refine ifK_intro (fun h3 => ?_) fun h3 => ?_
  · have h3 : d < 0 := by simpa using h3
    have e1 : resizeA n d g.abs = (0, putA n { x.2.2 with data := x.2.2.data.take (x.2.2.data.length + d).toNat } g.abs) := by unfold resizeA; rw [hask]; simp only; rw [if_neg h2, if_neg (by omega)]
    rw [e1] at hK
    refine dr_some (RG.ldE hA hg.vL hx hp (by decide) (k := .sl) x.2.1 rfl ?_)
    have hq : w64 ((x.2.2.data.length : Int) + d) = (((x.2.2.data.length : Int) + d).toNat : Int) := by rw [w64_in (by omega) (by omega)]; omega
    rw [hq]
    have hqle : ((x.2.2.data.length : Int) + d).toNat ≤ x.2.2.data.length := by omega
    generalize ((x.2.2.data.length : Int) + d).toNat = q at hqle hK
    have hv := (rvecOf hg hx _ hri).1
    have hcap := hv.2.1
    refine ⟨0, q, x.2.1.cap, rfl, rfl, rfl, Nat.zero_le _, by omega, Nat.le_refl _, dr_some ?_⟩
    have hv' : ∀ r, g.ros[i]? = some r → VecL r EU (x.2.1.cut 1 0 q x.2.1.cap) (x.2.2.data.take q) := fun r hr => by
      have hv := (rvecOf hg hx r hr).1
      have h0 := hv.cut0 hqle
      refine ⟨h0.1, by show q - 0 ≤ x.2.1.cap - 0; omega, ?_⟩
      rcases hv.2.2 with ⟨e1, e2, e3⟩ | ⟨b, rest, e1, e2, e3⟩
      · refine .inl ⟨e1, ?_, by show x.2.1.cap - 0 = 0; omega⟩
        simp [Sl.cut, e2, e3]
      · refine .inr ⟨b, EU.cells (x.2.2.data.drop q) ++ rest, ?_, ?_, ?_⟩
        · rw [e1, ← List.append_assoc, ← EU.cells_append, List.take_append_drop]
        · unfold Sl.cut; rw [e2]; simp
        · rw [← List.append_assoc, ← EU.cells_append, List.take_append_drop]
          exact e3
    refine RG.stE hA (hg.but i) hx hp (j := 1) (vs := [.sl (x.2.1.cut 1 0 q x.2.1.cap)]) (y := (x.1, x.2.1.cut 1 0 q x.2.1.cap, { x.2.2 with data := x.2.2.data.take q })) (by simp) rfl (fun r hr => ⟨hv' r hr, hok.lo, hok.hi, by simp; omega, fun y hy => hok.byte y (List.mem_of_mem_take hy)⟩) fun rL' w5 hA5 hg5 _ => ?_
    exact hK _ _ ⟨hA5, hg5, rfl, rabs_set hx hxn hpre hxn, rfl⟩
  have h3 : ¬ d < 0 := by simpa using h3
  have e1 : resizeA n d g.abs = (0, putA n { x.2.2 with data := x.2.2.data ++ List.replicate d.toNat 0 } g.abs) := by
    unfold resizeA; rw [hask]; simp only; rw [if_neg h2]
    by_cases h4 : 0 < d
    · rw [if_pos h4]
    · have : d = 0 := by omega
      subst this
      rw [if_neg h4]
      simp
  rw [e1] at hK
  have hd : d = ((d.toNat : Nat) : Int) := by omega
  generalize d.toNat = q at hd hK e1
  subst hd
  let I : Nat → World → Prop := fun k v => ∃ (g' : RG) (t : Sl), At w0 D g'.parts.flatten v ∧ g'.ok ∧ g'.q = g.q ∧ g'.lS = g.lS ∧ g'.mt = g.mt ∧ g'.es = g.es.set i (x.1, t, { x.2.2 with data := x.2.2.data ++ List.replicate k 0 })
  refine join0 (fun v => I q v) ?_ ?_
  · intro k25 hk25
    refine loop1 (k := .int .i64) (fun (z : Int) v => ∃ k : Nat, z = k ∧ k ≤ q ∧ I k v) (fun z _ => (q - z).toNat) (x := 0) rfl
      ⟨0, rfl, by omega, g, x.2.1, hA, hg, rfl, rfl, rfl, by rw [List.replicate_zero, List.append_nil]; exact (set_self hx).symm⟩ ?_
    rintro z v ⟨k, rfl, hk, hI⟩
    refine ifK_intro (fun hlt => ?_) fun hge => ?_
    · have hlt : k < q := dlt hlt
      obtain ⟨g', t, hA', hg', hq', hl', hm', he'⟩ := hI
      have hx' : g'.es[i]? = some (x.1, t, { x.2.2 with data := x.2.2.data ++ List.replicate k 0 }) := by rw [he', List.getElem?_set]; simp [hi]
      have hp' : g'.lS.p = some (bL, 0) := by rw [hl']; exact hp
      have hw1 : w64 ((k : Int) + 1) = ((k + 1 : Nat) : Int) := step64 (by omega)
      refine dr_some (RG.ldE hA' hg'.vL hx' hp' (by decide) (k := .sl) t rfl ?_)
      refine hA'.alK fun b32 w33 _ hA33 _ => ?_
      have hb32 : Blk w33 b32 (EU.f 0) := hA33.own (b32, _) (by simp [EU, LV.toV])
      have hA33' : At w0 D g'.parts.flatten w33 := hA33.sub (List.sublist_append_left _ _)
      refine RG.apE hA33' hg' hx' (rd_one hb32) (by simp; omega) fun t' ro' w4 hA4 hg4 hv4 _ => dr_some ?_
      have hxx : ({ g' with ros := g'.ros.set i ro' } : RG).es[i]? = some (x.1, t, { x.2.2 with data := x.2.2.data ++ List.replicate k 0 }) := hx'
      have hrep : (x.2.2.data ++ List.replicate k 0) ++ [0] = x.2.2.data ++ List.replicate (k + 1) (0 : Int) := by
        rw [List.append_assoc, ← List.replicate_succ']
      refine RG.stE hA4 hg4 hxx hp' (j := 1) (vs := [.sl t']) (y := (x.1, t', { x.2.2 with data := x.2.2.data ++ List.replicate (k + 1) 0 })) (by simp) rfl (fun r hr => ⟨hrep ▸ hv4 r hr, hok.lo, hok.hi, by simp; omega, fun y hy => ?_⟩) fun rL' w5 hA5 hg5 _ => ?_
      · rcases List.mem_append.1 hy with hy | hy
        · exact hok.byte y hy
        · have := List.eq_of_mem_replicate hy; omega
      · refine ⟨⟨k + 1, hw1, by omega, _, t', hA5, hg5, hq', hl', hm', ?_⟩, by rw [hw1]; omega⟩
        show g'.es.set i _ = _
        rw [he', List.set_set]
    · have hk : k = q := by have := dge hge; omega
      subst hk
      exact hk25 _ hI
  · rintro v ⟨g', t, hA', hg', hq', hl', hm', he'⟩
    refine hK g' v ⟨hA', hg', hq', ?_, hm'⟩
    unfold RG.abs
    rw [he']
    exact rabs_set hx hxn hpre hxn
end
end Go.Proofs.Ytjldecomhpngmaa
