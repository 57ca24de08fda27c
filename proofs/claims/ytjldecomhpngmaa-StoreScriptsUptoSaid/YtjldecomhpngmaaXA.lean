/- The document's own store: Append. -/
import Derived.Test.YtjldecomhpngmaaVZ
namespace Go.Proofs.Ytjldecomhpngmaa
open Go.Vw

section
variable {w0 w : World} {D : Nat → Prop} {g : RG}
theorem RG.ldDE {i : Nat} {x : Str × Sl × Bl} (hA : At w0 D g.parts.flatten w) (hL : VecL g.rL ERb g.lS g.es) (hx : g.es[i]? = some x) {bL : Nat} (hp : g.lS.p = some (bL, 0)) {j : Nat} (hj : j < 6) {k : Kd} (y : Den k) {C : Nat → Prop} (hC : ¬ C bL) {K : Den k → Prop} (hy : (ERb.f x)[j]? = some (LV.mk k y).toV) (hK : K y) : Go.Vw.ldD C w k bL ((0 + i * 6) + j) K :=
  ⟨y, hC, (RG.cellE hA hL hx hp hj).trans hy, hK⟩
theorem rappend_ok (hA : At w0 D g.parts.flatten w) (hg : g.ok) (n : Str) (hn : n.length ≤ 1099511627776) {b : Sl} {d : List Int} (hd : RdS w EU b d) (hl : d.length ≤ 1099511627776) (hby : ∀ x ∈ d, 0 ≤ x ∧ x < 256) {K : Int → World → Prop} (hK : ∀ g' w', RN w0 D g (appendA n d g.abs).2 g.mt g' w' → K (appendA n d g.abs).1 w') :
    callK Try.prog 62 [.leaf (.ptr (some (g.q, 0))), .leaf (.str n), .leaf (.sl b)] w (.one (.leaf (.int .i64))) K := by
  refine go_winnowref5_Store_Append _ _ _ _ _ ?_
  have hblen : b.len = d.length := hd.len
  refine rask_ok hA hg n hn (fun c hc hc2 _ => ?_) fun i x hx hxn hpre hask => ?_
  · have e1 : appendA n d g.abs = (c, g.abs) := by unfold appendA writeA; rw [hc]
    rw [e1] at hK
    exact ifK_t (by simpa using askA_c hc) (hK _ _ (rself hA hg))
  refine ifK_f rfl (dr_some (RG.ldQ hA (k := .sl) g.lS rfl (rix hA hg hx fun bL hp hk => dr_some ?_)))
  refine RG.ldE hA hg.vL hx hp (by decide) (k := .bool) x.2.2.out rfl ?_
  refine ifK_intro (fun ho => ?_) fun ho => dr_some (RG.ldE hA hg.vL hx hp (by decide) (k := .bool) x.2.2.stopped rfl (ifK_intro (fun hs => ?_) fun hs => dr_some ?_))
  · have e1 : appendA n d g.abs = (54, g.abs) := by unfold appendA writeA; rw [hask]; simp [ho]
    rw [e1] at hK
    exact hK _ _ (rself hA hg)
  · have e1 : appendA n d g.abs = (55, g.abs) := by unfold appendA writeA; rw [hask]; simp [ho, hs]
    rw [e1] at hK
    exact hK _ _ (rself hA hg)
  have ha : writeA n g.abs = (0, some x.2.2) := by unfold writeA; rw [hask]; simp [ho, hs]
  obtain ⟨hok, hsl⟩ := RG.okE hg hx
  have hk3 := hok.len
  have hi : i < g.es.length := (List.getElem?_eq_some_iff.1 hx).1
  refine RG.ldE hA hg.vL hx hp (by decide) (k := .sl) x.2.1 rfl ?_
  have hsum : w64 ((x.2.1.len : Int) + (b.len : Int)) = ((x.2.2.data.length + d.length : Nat) : Int) := by rw [w64_in (by omega) (by omega)]; omega
  rw [hsum]
  refine ifK_intro (fun hbig => ?_) fun hbig => ?_
  · have hbig : 268435456 < x.2.2.data.length + d.length := by simp only [decide_eq_true_eq] at hbig; omega
    have e1 : appendA n d g.abs = (57, g.abs) := by unfold appendA; rw [ha]; simp [hbig]
    rw [e1] at hK
    exact hK _ _ (rself hA hg)
  have hbig : ¬ 268435456 < x.2.2.data.length + d.length := by simp only [decide_eq_false_iff_not] at hbig; omega
  have hnR : ∀ {u : World} (hA : At w0 D g.parts.flatten u), ∀ r, g.ros[i]? = some r → ¬ Ks r bL := fun hA r hr => RG.notR hA hr hk
  have hri : g.ros[i]? = some (g.ros[i]'(by rw [hg.n]; exact hi)) := List.getElem?_eq_getElem (by rw [hg.n]; exact hi)
  refine join1 (fun c u => u = w ∧ (c = true ↔ x.2.2.stops = true ∧ x.2.2.stop < ((x.2.2.data.length + d.length : Nat) : Int))) ?_ ?_
  · intro k hk
    refine dr_some (RG.ldE hA hg.vL hx hp (by decide) (k := .bool) x.2.2.stops rfl ?_)
    refine ifK_intro (fun h2 => dr_some (RG.ldE hA hg.vL hx hp (by decide) (k := .int .i64) x.2.2.stop rfl ?_)) fun h2 => ?_
    · exact hk _ _ ⟨rfl, by simp only [decide_eq_true_eq]; exact ⟨fun x => ⟨h2, x⟩, fun x => x.2⟩⟩
    · exact hk _ _ ⟨rfl, by simp [h2]⟩
  rintro c u ⟨rfl, hc⟩
  refine ifK_intro (fun h2 => ?_) fun h2 => ?_
  · obtain ⟨hs1, hs2⟩ := hc.1 h2
    have e1 : appendA n d g.abs = (55, putA n { x.2.2 with data := x.2.2.data ++ d.take (x.2.2.stop - x.2.2.data.length).toNat, stopped := true } g.abs) := by
      unfold appendA; rw [ha]; simp only [if_neg hbig]; rw [if_pos ⟨hs1, by omega⟩]
    rw [e1] at hK
    refine dr_some (RG.ldE hA hg.vL hx hp (by decide) (k := .int .i64) x.2.2.stop rfl ?_)
    have hlo := hok.lo
    have hhi := hok.hi
    refine join0 (fun w47 => ∃ (g' : RG) (t : Sl) (r' : BL), At w0 D g'.parts.flatten w47 ∧ g'.okB i ∧ g'.q = g.q ∧ g'.lS = g.lS ∧ g'.mt = g.mt ∧ g'.es = g.es.set i (x.1, t, { x.2.2 with data := x.2.2.data ++ d.take (x.2.2.stop - x.2.2.data.length).toNat }) ∧ g'.ros[i]? = some r' ∧ VecL r' EU t (x.2.2.data ++ d.take (x.2.2.stop - x.2.2.data.length).toNat)) ?_ ?_
    · intro k33 hk33
      rw [hsl]
      refine ifK_intro (fun h3 => ?_) fun h3 => ?_
      · have h3 : (x.2.2.data.length : Int) < x.2.2.stop := by simpa using h3
        have hAd := RG.drew hA
        refine ⟨Ks (g.ros[i]'(by rw [hg.n]; exact hi)), dr_some (RG.ldDE hAd hg.vL hx hp (by decide) (k := .sl) x.2.1 (hnR hAd _ hri) rfl (dr_some (RG.ldDE hAd hg.vL hx hp (by decide) (k := .int .i64) x.2.2.stop (hnR hAd _ hri) rfl ?_)))⟩
        have hmx : w64 (x.2.2.stop - (x.2.2.data.length : Int)) = ((x.2.2.stop - x.2.2.data.length).toNat : Int) := by
          rw [w64_in (by omega) (by omega)]; omega
        rw [hmx]
        have hrd : RdS u.drew EU b d := hd.keep (mod_drew u) fun _ _ => id
        generalize hq : (x.2.2.stop - x.2.2.data.length).toNat = q at *
        have hqd : q ≤ d.length := by omega
        refine hrd.slx hqd 1 ?_
        have hrd2 : RdS u.drew EU (b.cut 1 0 q b.cap) ((d.take q).drop 0) := RdS.cutR hrd (lo := 0) (hi := q) (mx := b.cap) (Nat.zero_le _) hqd (by have := hrd.has; have := hrd.len; omega)
        rw [List.drop_zero] at hrd2
        have hby' : ∀ y ∈ x.2.2.data ++ d.take q, 0 ≤ y ∧ y < 256 := fun y hx => by
          rcases List.mem_append.1 hx with hx | hx
          · exact hok.byte y hx
          · exact hby y (List.mem_of_mem_take hx)
        have hlen' : (x.2.2.data ++ d.take q).length ≤ 268435456 := by simp; omega
        refine RG.apE hAd hg hx hrd2 (by simp; omega) fun t ro' w4 hA4 hg4 hv4 hM4 => ⟨hM4 _ hri, dr_some ?_⟩
        have hxx : ({ g with ros := g.ros.set i ro' } : RG).es[i]? = some x := hx
        refine RG.stE hA4 hg4 hxx hp (j := 1) (vs := [.sl t]) (y := (x.1, t, { x.2.2 with data := x.2.2.data ++ d.take q })) (by simp) rfl (fun r hr => ⟨hv4 r hr, hlo, hhi, hlen', hby'⟩) fun rL' w5 hA5 hg5 _ => ?_
        have hro' : (g.ros.set i ro')[i]? = some ro' := by rw [List.getElem?_set]; simp [hg.n, hi]
        exact hk33 _ ⟨_, t, ro', hA5, hg5.but i, rfl, rfl, rfl, rfl, hro', hv4 _ hro'⟩
      · have h3 : x.2.2.stop ≤ (x.2.2.data.length : Int) := by simpa using h3
        have hz : (x.2.2.stop - x.2.2.data.length).toNat = 0 := by omega
        rw [hz] at hk33
        refine hk33 _ ⟨g, x.2.1, _, hA, hg.but i, rfl, rfl, rfl, ?_, hri, ?_⟩
        · rw [List.take_zero, List.append_nil]; exact (set_self hx).symm
        · rw [List.take_zero, List.append_nil]; exact (rvecOf hg hx _ hri).1
    · rintro w47 ⟨g', t, r', hA', hg', hq', hl', hm', he', hr', hv'⟩
      have hx' : g'.es[i]? = some (x.1, t, { x.2.2 with data := x.2.2.data ++ d.take (x.2.2.stop - x.2.2.data.length).toNat }) := by rw [he', List.getElem?_set]; simp [hi]
      have hp' : g'.lS.p = some (bL, 0) := by rw [hl']; exact hp
      have hby' : ∀ y ∈ x.2.2.data ++ d.take (x.2.2.stop - x.2.2.data.length).toNat, 0 ≤ y ∧ y < 256 := fun y hx => by
        rcases List.mem_append.1 hx with hx | hx
        · exact hok.byte y hx
        · exact hby y (List.mem_of_mem_take hx)
      have hlen' : (x.2.2.data ++ d.take (x.2.2.stop - x.2.2.data.length).toNat).length ≤ 268435456 := by simp; omega
      refine dr_some (RG.stE hA' hg' hx' hp' (j := 3) (vs := [.lit true]) (y := (x.1, t, { x.2.2 with data := x.2.2.data ++ d.take (x.2.2.stop - x.2.2.data.length).toNat, stopped := true })) (by simp) rfl (fun r hr => by rw [hr'] at hr; cases hr; exact ⟨hv', hlo, hhi, hlen', hby'⟩) fun rL' w5 hA5 hg5 _ => hK _ _ ⟨hA5, hg5, hq', ?_, hm'⟩)
      show ((g'.es.set i _).map _) = _
      rw [he', List.set_set]
      exact rabs_set hx hxn hpre hxn
  · have hns : ¬ (x.2.2.stops = true ∧ x.2.2.stop < x.2.2.data.length + d.length) := fun y => by rw [hc.2 ⟨y.1, by have := y.2; omega⟩] at h2; cases h2
    have e1 : appendA n d g.abs = (0, putA n { x.2.2 with data := x.2.2.data ++ d } g.abs) := by
      unfold appendA; rw [ha]; simp only [if_neg hbig]; rw [if_neg hns]
    rw [e1] at hK
    refine dr_some (RG.ldE hA hg.vL hx hp (by decide) (k := .sl) x.2.1 rfl ?_)
    have hby' : ∀ y ∈ x.2.2.data ++ d, 0 ≤ y ∧ y < 256 := fun y hx => by
      rcases List.mem_append.1 hx with hx | hx
      · exact hok.byte y hx
      · exact hby y hx
    have hlen' : (x.2.2.data ++ d).length ≤ 268435456 := by simp; omega
    refine RG.apE hA hg hx hd (by omega) fun t ro' w4 hA4 hg4 hv4 hM4 => dr_some ?_
    have hxx : ({ g with ros := g.ros.set i ro' } : RG).es[i]? = some x := hx
    refine RG.stE hA4 hg4 hxx hp (j := 1) (vs := [.sl t]) (y := (x.1, t, { x.2.2 with data := x.2.2.data ++ d })) (by simp) rfl (fun r hr => ⟨hv4 r hr, hok.lo, hok.hi, hlen', hby'⟩) fun rL' w5 hA5 hg5 _ => ?_
    exact hK _ _ ⟨hA5, hg5, rfl, rabs_set hx hxn hpre hxn, rfl⟩
end
end Go.Proofs.Ytjldecomhpngmaa
