/- The document's own store: its methods, first part. -/
import Derived.Test.YtjldecomhpngmaaVY
namespace Go.Proofs.Ytjldecomhpngmaa
open Go.Vw

structure RN (w0 : World) (D : Nat → Prop) (g : RG) (a : Abs) (t : Int × Int × Int) (g' : RG) (w' : World) : Prop where
  at_ : At w0 D g'.parts.flatten w'
  ok : g'.ok
  q : g'.q = g.q
  abs : g'.abs = a
  mt : g'.mt = t
section
variable {w0 w : World} {D : Nat → Prop} {g : RG}
theorem rabs_set {es : List (Str × Sl × Bl)} {i : Nat} {x y : Str × Sl × Bl} {n : Str} (hx : es[i]? = some x) (hn : x.1 = n) (hA : ∀ z ∈ es.take i, z.1 ≠ n) (hy : y.1 = n) : ((es.set i y).map fun x => (x.1, x.2.2)) = putA n y.2.2 (es.map fun x => (x.1, x.2.2)) := by
  have hi : i < es.length := (List.getElem?_eq_some_iff.1 hx).1
  have e1 : es = es.take i ++ x :: es.drop (i + 1) := by
    have : es.drop i = x :: es.drop (i + 1) := by rw [List.drop_eq_getElem_cons hi]; congr 1; rw [List.getElem?_eq_getElem hi] at hx; exact Option.some.inj hx
    rw [← this, List.take_append_drop]
  have e2 : es.set i y = es.take i ++ y :: es.drop (i + 1) := by
    rw [List.set_eq_take_append_cons_drop, if_pos hi]
  rw [e2]
  conv => rhs; rw [e1]
  simp only [List.map_append, List.map_cons]
  rw [hn, hy, putA_mid (fun z hz => by obtain ⟨u, hu, rfl⟩ := List.mem_map.1 hz; exact hA u hu)]
theorem rask {es : List (Str × Sl × Bl)} {i : Nat} {x : Str × Sl × Bl} {n : Str} (hg : goodN n = true) (hx : es[i]? = some x) (hn : x.1 = n) (hA : ∀ z ∈ es.take i, z.1 ≠ n) : askA n (es.map fun x => (x.1, x.2.2)) = (0, some x.2.2) := by
  have hi : i < es.length := (List.getElem?_eq_some_iff.1 hx).1
  have e1 : es = es.take i ++ x :: es.drop (i + 1) := by
    have : es.drop i = x :: es.drop (i + 1) := by rw [List.drop_eq_getElem_cons hi]; congr 1; rw [List.getElem?_eq_getElem hi] at hx; exact Option.some.inj hx
    rw [← this, List.take_append_drop]
  unfold askA
  rw [hg, e1]
  simp only [List.map_append, List.map_cons]
  rw [hn, getA_mid (fun z hz => by obtain ⟨u, hu, rfl⟩ := List.mem_map.1 hz; exact hA u hu)]
  rfl
theorem rfind_ok (hA : At w0 D g.parts.flatten w) (hg : g.ok) (n : Str) {K : Int → World → Prop} (h0 : (∀ x ∈ g.es, x.1 ≠ n) → K (-1) w) (h1 : ∀ (i : Nat) x, g.es[i]? = some x → x.1 = n → (∀ z ∈ g.es.take i, z.1 ≠ n) → K (i : Int) w) :
    callK Try.prog 84 [.leaf (.ptr (some (g.q, 0))), .leaf (.str n)] w (.one (.leaf (.int .i64))) K := by
  refine go_winnowref5_Store_find _ _ _ _ ?_
  have hlen := hg.len
  have hsl : g.lS.len = g.es.length := hg.vL.1
  refine join0 (fun u => u = w ∧ ∀ x ∈ g.es, x.1 ≠ n) ?_ (by rintro u ⟨rfl, h⟩; exact h0 h)
  intro k3 hk3
  refine loop1 (k := .int .i64) (fun (i : Int) u => u = w ∧ ∃ j : Nat, i = j ∧ j ≤ g.es.length ∧ ∀ x ∈ g.es.take j, x.1 ≠ n) (fun i _ => (g.es.length - i).toNat) (x := 0) rfl ⟨rfl, 0, rfl, by omega, by simp⟩ ?_
  rintro i u ⟨rfl, j, rfl, hj, hne⟩
  refine dr_some (RG.ldQ hA (k := .sl) g.lS rfl ?_)
  rw [hsl]
  refine ifK_intro (fun h => ?_) fun h => ?_
  · have hlt : j < g.es.length := dlt h
    have hx : g.es[j]? = some g.es[j] := List.getElem?_eq_getElem hlt
    refine dr_some (RG.ldQ hA (k := .sl) g.lS rfl ?_)
    refine (RG.rdL hA hg.vL).ix rfl rfl hx fun b o _ hc => ld_cell (k := .str) g.es[j].1 (hc 0 (by decide)) ?_
    refine ifK_intro (fun he => ?_) fun he => ?_
    · have he : g.es[j].1 = n := by simpa using he
      exact h1 j _ hx he hne
    · have he : g.es[j].1 ≠ n := by simpa using he
      refine ⟨⟨rfl, j + 1, step64 (by omega), by omega, fun y hy => ?_⟩, by rw [step64 (by omega)]; omega⟩
      rw [List.take_add_one, List.mem_append, hx] at hy
      rcases hy with hy | hy
      · exact hne y hy
      · simp at hy; subst hy; exact he
  · have hlt : g.es.length ≤ j := dge h
    rw [List.take_of_length_le hlt] at hne
    exact hk3 _ ⟨rfl, hne⟩
theorem rask_ok (hA : At w0 D g.parts.flatten w) (hg : g.ok) (n : Str) (hn : n.length ≤ 1099511627776) {K : Int → Int → World → Prop} (h0 : ∀ c, askA n g.abs = (c, none) → c = 50 ∨ c = 52 → (c = 52 → goodN n = true ∧ ∀ x ∈ g.es, x.1 ≠ n) → K (-1) c w)
    (h1 : ∀ (i : Nat) x, g.es[i]? = some x → x.1 = n → (∀ z ∈ g.es.take i, z.1 ≠ n) → askA n g.abs = (0, some x.2.2) → K (i : Int) 0 w) :
    callK Try.prog 61 [.leaf (.ptr (some (g.q, 0))), .leaf (.str n)] w (.tup [.leaf (.int .i64), .leaf (.int .i64)]) K := by
  refine go_winnowref5_Store_ask _ _ _ _ ?_
  refine ifK_f rfl (good_ok n hn ?_)
  refine ifK_intro (fun hb => ?_) fun hb => ?_
  · have hgd : goodN n = false := by simpa using hb
    exact h0 50 (by unfold askA; rw [if_pos hgd]) (.inl rfl) (fun h => by cases h)
  have hgd : goodN n = true := by simpa using hb
  refine rfind_ok hA hg n (fun hne => ?_) fun i x hx hxn hpre => ?_
  · refine ifK_t (by decide) (h0 52 ?_ (.inr rfl) fun _ => ⟨hgd, hne⟩)
    unfold askA
    rw [hgd, getA_none (fun z hz => by unfold RG.abs at hz; obtain ⟨u, hu, rfl⟩ := List.mem_map.1 hz; exact hne u hu)]
    rfl
  · exact ifK_f (decide_eq_false (Int.not_lt.2 (Int.natCast_nonneg i))) (h1 i x hx hxn hpre (rask hgd hx hxn hpre))
variable {a : Abs}
theorem rself (hA : At w0 D g.parts.flatten w) (hg : g.ok) : RN w0 D g g.abs g.mt g w := ⟨hA, hg, rfl, rfl, rfl⟩
/-- a place -/
theorem rix (hA : At w0 D g.parts.flatten w) (hg : g.ok) {i : Nat} {x : Str × Sl × Bl} (hx : g.es[i]? = some x) {K : Nat → Nat → Prop} (hK : ∀ bL, g.lS.p = some (bL, 0) → Ks g.rL bL → K bL (0 + i * 6)) : ix g.lS 6 (i : Int) K := by
  obtain ⟨bL, hp, hlt, hcap, hk⟩ := RG.elt hA hg.vL hx
  exact ix_some hp (by omega) (by omega) (hK bL hp hk) hcap
theorem rvecOf (hg : g.ok) {i : Nat} {x : Str × Sl × Bl} (hx : g.es[i]? = some x) : ∀ r, g.ros[i]? = some r → VecL r EU x.2.1 x.2.2.data ∧ x.2.2.ok := fun r hr => hg.vec i x r hx hr
def publishR (n : Str) (a : Abs) : Int × Abs := match askA n a with
  | (c, none) => (c, a)
  | (_, some b) => if b.out then (54, a) else if b.stops then (55, putA n { b with stopped := true } a) else (0, putA n { b with out := true } a)
theorem rpublish_ok (hA : At w0 D g.parts.flatten w) (hg : g.ok) (n : Str) (hn : n.length ≤ 1099511627776) {K : Int → World → Prop} (hK : ∀ g' w', RN w0 D g (publishR n g.abs).2 g.mt g' w' → K (publishR n g.abs).1 w') :
    callK Try.prog 42 [.leaf (.ptr (some (g.q, 0))), .leaf (.str n)] w (.one (.leaf (.int .i64))) K := by
  refine go_winnowref5_Store_Publish _ _ _ _ ?_
  refine rask_ok hA hg n hn (fun c hc hc2 _ => ?_) fun i x hx hxn hpre hask => ?_
  · have e1 : publishR n g.abs = (c, g.abs) := by unfold publishR; rw [hc]
    rw [e1] at hK
    exact ifK_t (by simpa using askA_c hc) (hK _ _ (rself hA hg))
  refine ifK_f rfl (dr_some (RG.ldQ hA (k := .sl) g.lS rfl (rix hA hg hx fun bL hp hk => dr_some ?_)))
  refine RG.ldE hA hg.vL hx hp (by decide) (k := .bool) x.2.2.out rfl ?_
  refine ifK_intro (fun ho => ?_) fun ho => dr_some (RG.ldE hA hg.vL hx hp (by decide) (k := .bool) x.2.2.stops rfl (ifK_intro (fun hs => ?_) fun hs => ?_))
  · have e1 : publishR n g.abs = (54, g.abs) := by unfold publishR; rw [hask]; simp [ho]
    rw [e1] at hK
    exact hK _ _ (rself hA hg)
  · have e1 : publishR n g.abs = (55, putA n { x.2.2 with stopped := true } g.abs) := by unfold publishR; rw [hask]; simp [ho, hs]
    rw [e1] at hK
    refine dr_some (RG.stE hA (hg.but i) hx hp (j := 3) (vs := [.lit true]) (y := (x.1, x.2.1, { x.2.2 with stopped := true })) (by decide) rfl (fun r hr => ⟨(rvecOf hg hx r hr).1, (rvecOf hg hx r hr).2.1, (rvecOf hg hx r hr).2.2, (rvecOf hg hx r hr).2.3, (rvecOf hg hx r hr).2.4⟩) fun rL' w' hA' hg' _ => hK _ _ ⟨hA', hg', rfl, rabs_set hx hxn hpre hxn, rfl⟩)
  · have e1 : publishR n g.abs = (0, putA n { x.2.2 with out := true } g.abs) := by unfold publishR; rw [hask]; simp [ho, hs]
    rw [e1] at hK
    refine dr_some (RG.stE hA (hg.but i) hx hp (j := 2) (vs := [.lit true]) (y := (x.1, x.2.1, { x.2.2 with out := true })) (by decide) rfl (fun r hr => ⟨(rvecOf hg hx r hr).1, (rvecOf hg hx r hr).2.1, (rvecOf hg hx r hr).2.2, (rvecOf hg hx r hr).2.3, (rvecOf hg hx r hr).2.4⟩) fun rL' w' hA' hg' _ => hK _ _ ⟨hA', hg', rfl, rabs_set hx hxn hpre hxn, rfl⟩)
theorem rstop_ok (hA : At w0 D g.parts.flatten w) (hg : g.ok) (n : Str) (k : Int) (hk0 : k ≤ 9223372036854775807) (hn : n.length ≤ 1099511627776) {K : Int → World → Prop} (hK : ∀ g' w', RN w0 D g (stopA n k g.abs).2 g.mt g' w' → K (stopA n k g.abs).1 w') :
    callK Try.prog 51 [.leaf (.ptr (some (g.q, 0))), .leaf (.str n), .leaf (.int .i64 k)] w (.one (.leaf (.int .i64))) K := by
  refine go_winnowref5_Store_StopAt _ _ _ _ _ ?_
  refine rask_ok hA hg n hn (fun c hc hc2 _ => ?_) fun i x hx hxn hpre hask => ?_
  · have e1 : stopA n k g.abs = (c, g.abs) := by unfold stopA writeA; rw [hc]
    rw [e1] at hK
    exact ifK_t (by simpa using askA_c hc) (hK _ _ (rself hA hg))
  refine ifK_f rfl (dr_some (RG.ldQ hA (k := .sl) g.lS rfl (rix hA hg hx fun bL hp hk => dr_some ?_)))
  refine RG.ldE hA hg.vL hx hp (by decide) (k := .bool) x.2.2.out rfl ?_
  refine ifK_intro (fun ho => ?_) fun ho => dr_some (RG.ldE hA hg.vL hx hp (by decide) (k := .bool) x.2.2.stopped rfl (ifK_intro (fun hs => ?_) fun hs => ?_))
  · have e1 : stopA n k g.abs = (54, g.abs) := by unfold stopA writeA; rw [hask]; simp [ho]
    rw [e1] at hK
    exact hK _ _ (rself hA hg)
  · have e1 : stopA n k g.abs = (55, g.abs) := by unfold stopA writeA; rw [hask]; simp [ho, hs]
    rw [e1] at hK
    exact hK _ _ (rself hA hg)
  have e1 : stopA n k g.abs = (0, putA n { x.2.2 with stops := true, stop := mxI k 0 } g.abs) := by unfold stopA writeA; rw [hask]; simp [ho, hs]
  rw [e1] at hK
  have hi : i < g.es.length := (List.getElem?_eq_some_iff.1 hx).1
  have hok := (RG.okE hg hx).1
  have hm : mxI k 0 = if k < 0 then 0 else k := rfl
  refine dr_some (RG.stE hA (hg.but i) hx hp (j := 4) (vs := [.lit true]) (y := (x.1, x.2.1, { x.2.2 with stops := true })) (by decide) rfl (fun r hr => ⟨(rvecOf hg hx r hr).1, hok.1, hok.2, hok.3, hok.4⟩) fun rL1 w1 hA1 hg1 _ => dr_some ?_)
  have hx1 : ({ g with rL := rL1, es := g.es.set i (x.1, x.2.1, { x.2.2 with stops := true }) } : RG).es[i]? = some (x.1, x.2.1, { x.2.2 with stops := true }) := by show (g.es.set i _)[i]? = _; rw [List.getElem?_set]; simp [hi]
  by_cases hneg : k < 0
  · have hm0 : mxI k 0 = 0 := by rw [hm, if_pos hneg]
    rw [hm0] at hK
    -- the number itself is written, then 0
    have hv1 : ∀ r, g.ros[i]? = some r → VecL r EU x.2.1 x.2.2.data := fun r hr => (rvecOf hg hx r hr).1
    have h1 := At.part (L := ({ g with rL := rL1, es := g.es.set i (x.1, x.2.1, { x.2.2 with stops := true }) } : RG).parts) (i := 1) hA1 rfl
    refine h1.setLj hg1.vL hx1 (j := 5) (vs := [.int .i64 k]) (y := (x.1, x.2.1, { x.2.2 with stops := true, stop := k })) (by show 5 + 1 ≤ 6; omega) rfl hp fun rL2 w2 hA2 hv2 _ => ?_
    have hA2 := Go.Vw.At.unpart (L := ({ g with rL := rL1, es := g.es.set i (x.1, x.2.1, { x.2.2 with stops := true }) } : RG).parts) (i := 1) rfl hA2
    refine join0 (fun u => ∃ g' , RN w0 D g (putA n { x.2.2 with stops := true, stop := 0 } g.abs) g.mt g' u) ?_ (fun u ⟨g', h⟩ => hK g' u h)
    intro k24 hk24
    refine ifK_t (decide_eq_true hneg) (dr_some ?_)
    let g2 : RG := { g with rL := rL2, es := (g.es.set i (x.1, x.2.1, { x.2.2 with stops := true })).set i (x.1, x.2.1, { x.2.2 with stops := true, stop := k }) }
    have hA2' : At w0 D g2.parts.flatten w2 := hA2
    have hx2 : g2.es[i]? = some (x.1, x.2.1, { x.2.2 with stops := true, stop := k }) := by show ((g.es.set i _).set i _)[i]? = _; rw [List.getElem?_set]; simp [hi]
    have hB2 : g2.okB i := ⟨hv2, by show g.ros.length = _; simp [g2, hg.n], by simp [g2]; exact hg.len, fun j z r hne hz hr => by
      have hz : ((g.es.set i (x.1, x.2.1, { x.2.2 with stops := true })).set i (x.1, x.2.1, { x.2.2 with stops := true, stop := k }))[j]? = some z := hz
      rw [List.getElem?_set, if_neg (Ne.symm hne), List.getElem?_set, if_neg (Ne.symm hne)] at hz
      exact hg.vec j z r hz hr⟩
    refine RG.stE hA2' hB2 hx2 hp (j := 5) (vs := [.int .i64 0]) (y := (x.1, x.2.1, { x.2.2 with stops := true, stop := 0 })) (by decide) rfl (fun r hr => ⟨hv1 r hr, by show (0:Int) ≤ 0; decide, by show (0:Int) ≤ 9223372036854775807; decide, hok.3, hok.4⟩) fun rL3 w3 hA3 hg3 _ => hk24 _ ⟨_, hA3, hg3, rfl, ?_, rfl⟩
    show ((((g.es.set i _).set i _).set i _).map _) = _
    rw [List.set_set, List.set_set]
    exact rabs_set hx hxn hpre hxn
  · have hm0 : mxI k 0 = k := by rw [hm, if_neg hneg]
    rw [hm0] at hK
    refine RG.stE hA1 (hg1.but i) hx1 hp (j := 5) (vs := [.int .i64 k]) (y := (x.1, x.2.1, { x.2.2 with stops := true, stop := k })) (by simp) rfl (fun r hr => ⟨(rvecOf hg hx r hr).1, by show 0 ≤ k; omega, hk0, hok.3, hok.4⟩) fun rL2 w2 hA2 hg2 _ => ?_
    refine join0 (fun u => u = w2) ?_ ?_
    · intro k24 hk24
      exact ifK_f (decide_eq_false hneg) (hk24 _ rfl)
    · rintro u rfl
      refine hK _ _ ⟨hA2, hg2, rfl, ?_, rfl⟩
      show (((g.es.set i _).set i _).map _) = _
      rw [List.set_set]
      exact rabs_set hx hxn hpre hxn
theorem rsize_ok (hA : At w0 D g.parts.flatten w) (hg : g.ok) (n : Str) (hn : n.length ≤ 1099511627776) {K : Int → Int → World → Prop} (hK : K (sizeA n g.abs).1 (sizeA n g.abs).2 w) :
    callK Try.prog 45 [.leaf (.ptr (some (g.q, 0))), .leaf (.str n)] w (.tup [.leaf (.int .i64), .leaf (.int .i64)]) K := by
  refine go_winnowref5_Store_Size _ _ _ _ ?_
  refine rask_ok hA hg n hn (fun c hc hc2 _ => ?_) fun i x hx hxn hpre hask => ?_
  · have e1 : sizeA n g.abs = (0, c) := by unfold sizeA readA; rw [hc]
    rw [e1] at hK
    exact ifK_t (by simpa using askA_c hc) hK
  refine ifK_f rfl (dr_some (RG.ldQ hA (k := .sl) g.lS rfl (rix hA hg hx fun bL hp hk => ?_)))
  refine RG.ldE hA hg.vL hx hp (by decide) (k := .bool) x.2.2.out rfl ?_
  refine ifK_intro (fun ho => ?_) fun ho => ?_
  · have ho : x.2.2.out = false := by simpa using ho
    have e1 : sizeA n g.abs = (0, 53) := by unfold sizeA readA; rw [hask]; simp [ho]
    rw [e1] at hK
    exact hK
  · have ho : x.2.2.out = true := by simpa using ho
    have e1 : sizeA n g.abs = ((x.2.2.data.length : Int), 0) := by unfold sizeA readA; rw [hask]; simp [ho]
    rw [e1] at hK
    refine dr_some (RG.ldQ hA (k := .sl) g.lS rfl (rix hA hg hx fun bL hp hk => ?_))
    refine RG.ldE hA hg.vL hx hp (by decide) (k := .sl) x.2.1 rfl ?_
    rw [(RG.okE hg hx).2]; exact hK
theorem rmeter_ok (hA : At w0 D g.parts.flatten w) {K : Int → Int → Int → World → Prop} (hK : ∀ w', At w0 D g.parts.flatten w' → K g.m1 g.m2 g.m3 w') :
    callK Try.prog 54 [.leaf (.ptr (some (g.q, 0)))] w (.one (.agg [.int .i64, .int .i64, .int .i64])) K := by
  refine go_winnowref5_Store_Meter _ _ _ ?_
  refine hA.alK fun b w1 _ hA1 _ => ifK_f rfl (dr_some ?_)
  have hA1' : At w0 D g.parts.flatten w1 := hA1.sub (List.sublist_append_left _ _)
  refine RG.ldQ hA1' (k := .int .i64) g.m1 rfl (RG.ldQ hA1' (k := .int .i64) g.m2 rfl (RG.ldQ hA1' (k := .int .i64) g.m3 rfl ?_))
  refine At.last hA1 (by simp) fun w2 hA2 => ?_
  refine hA2.ldLast (k := .int .i64) g.m1 rfl (hA2.ldLast (k := .int .i64) g.m2 rfl (hA2.ldLast (k := .int .i64) g.m3 rfl ?_))
  exact hK w2 (hA2.sub (List.sublist_append_left _ _))
end
end Go.Proofs.Ytjldecomhpngmaa
