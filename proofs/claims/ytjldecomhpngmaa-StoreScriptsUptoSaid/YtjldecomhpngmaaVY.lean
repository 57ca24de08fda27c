/- The document's own store in memory: a list of blobs. -/
import Derived.Test.YtjldecomhpngmaaVQ
import Derived.Test.YtjldecomhpngmaaVU
import Derived.Test.YtjldecomhpngmaaVH
import Derived.Test.YtjldecomhpngmaaVK
import Derived.Test.YtjldecomhpngmaaSP
namespace Go.Proofs.Ytjldecomhpngmaa
open Go.Vw

def ERb : Enc (Str × Sl × Bl) := ⟨6, fun x => [(LV.str x.1).toV, (LV.sl x.2.1).toV, .bool x.2.2.out, .bool x.2.2.stopped, .bool x.2.2.stops, .int .i64 x.2.2.stop], fun _ => rfl, by decide, fun x v h => by simp at h; rcases h with rfl | rfl | rfl | rfl | rfl | rfl <;> rfl⟩
structure RG where
  q : Nat
  lS : Sl
  rL : BL
  es : List (Str × Sl × Bl)
  ros : List BL
  m1 : Int
  m2 : Int
  m3 : Int
def RG.qc (g : RG) : List Value := [(LV.sl g.lS).toV, .int .i64 g.m1, .int .i64 g.m2, .int .i64 g.m3]
def RG.parts (g : RG) : List BL := [(g.q, g.qc)] :: g.rL :: g.ros
def RG.abs (g : RG) : Abs := g.es.map fun x => (x.1, x.2.2)
def RG.mt (g : RG) : Int × Int × Int := (g.m1, g.m2, g.m3)
/-- all but the blob i -/
structure RG.okB (g : RG) (i : Nat) : Prop where
  vL : VecL g.rL ERb g.lS g.es
  n : g.ros.length = g.es.length
  len : g.es.length ≤ 1073741824
  vec : ∀ (k : Nat) x r, k ≠ i → g.es[k]? = some x → g.ros[k]? = some r → VecL r EU x.2.1 x.2.2.data ∧ x.2.2.ok
structure RG.ok (g : RG) : Prop where
  vL : VecL g.rL ERb g.lS g.es
  n : g.ros.length = g.es.length
  len : g.es.length ≤ 1073741824
  vec : ∀ (k : Nat) x r, g.es[k]? = some x → g.ros[k]? = some r → VecL r EU x.2.1 x.2.2.data ∧ x.2.2.ok
theorem RG.ok.but {g : RG} (h : g.ok) (i : Nat) : g.okB i := ⟨h.vL, h.n, h.len, fun k x r _ => h.vec k x r⟩
/-- a part of an element is written -/
theorem _root_.Go.Vw.At.setLj {α : Type} {w0 w : World} {D : Nat → Prop} {m ro : BL} (hA : At w0 D (m ++ ro) w) {E : Enc α} {s : Sl} {l : List α} (hv : VecL ro E s l) {k : Nat} {x : α} (hx : l[k]? = some x) {j : Nat} {y : α} {vs : List LV} (hj : j + vs.length ≤ E.n) (hs : spl (E.f x) j (vs.map LV.toV) = E.f y) {b : Nat} (hp : s.p = some (b, 0))
    {K : World → Prop} (hK : ∀ ro' w', At w0 D (m ++ ro') w' → VecL ro' E s (l.set k y) → Mod (Ks ro) w w' → K w') : st w b ((0 + k * E.n) + j) vs K := by
  have hk : k < l.length := (List.getElem?_eq_some_iff.1 hx).1
  rcases hv.2.2 with ⟨_, h2, _⟩ | ⟨b', rest, rfl, hp', hc⟩
  · rw [h2] at hp; cases hp
  rw [hp'] at hp
  simp only [Option.some.injEq, Prod.mk.injEq] at hp
  obtain ⟨rfl, _⟩ := hp
  have hset := E.cells_set l k j (vs.map LV.toV) x y rest hx (by rw [List.length_map]; exact hj) hs
  have hb : Blk w b' (E.cells l ++ rest) := hA.own (b', _) (by simp)
  have h2 := hA.setCells (i := m.length) (b := b') (c := E.cells l ++ rest) (by simp) (k * E.n + j) (vs.map LV.toV)
  rw [hset, set_last] at h2
  have hle : (k + 1) * E.n ≤ l.length * E.n := Nat.mul_le_mul_right _ hk
  rw [Nat.add_mul] at hle
  rw [Nat.zero_add]
  refine ⟨fun i hi => ⟨⟨(E.cells l ++ rest)[k * E.n + j + i]'(by rw [List.length_append, E.cells_length]; omega), by rw [hb.cell, List.getElem?_eq_getElem]⟩, hb.frz _⟩, ?_⟩
  refine hK [(b', E.cells (l.set k y) ++ rest)] _ h2 ⟨by simp [hv.1], hv.2.1, .inr ⟨b', rest, rfl, hp', ?_⟩⟩ ((Mod.setCells ..).mono fun x _ e => ⟨_, List.mem_singleton.2 rfl, e.symm⟩)
  rw [List.length_append, E.cells_length] at hc ⊢; simpa using hc
section
variable {w0 w : World} {D : Nat → Prop} {g : RG} {i : Nat} {x : Str × Sl × Bl}
theorem RG.rdL (hA : At w0 D g.parts.flatten w) (hL : VecL g.rL ERb g.lS g.es) : RdS w ERb g.lS g.es := hL.rd fun p hp => hA.own p (by simp [RG.parts, hp])
theorem RG.qBlk (hA : At w0 D g.parts.flatten w) : Blk w g.q g.qc := hA.own (g.q, g.qc) (by simp [RG.parts])
theorem RG.ldQ (hA : At w0 D g.parts.flatten w) {k : Kd} {o : Nat} (y : Den k) {K : Den k → Prop} (hy : g.qc[o]? = some (LV.mk k y).toV) (hK : K y) : Go.Vw.ld w k g.q o K := ⟨y, by rw [(RG.qBlk hA).cell]; exact hy, hK⟩
/-- an element's place -/
theorem RG.elt (hA : At w0 D g.parts.flatten w) (hL : VecL g.rL ERb g.lS g.es) (hx : g.es[i]? = some x) : ∃ bL, g.lS.p = some (bL, 0) ∧ i < g.lS.len ∧ g.lS.len ≤ g.lS.cap ∧ Ks g.rL bL := by
  obtain ⟨b, o, hp, hlt, _⟩ := (RG.rdL hA hL).at hx
  rcases hL.2.2 with ⟨_, h2, _⟩ | ⟨b', rest, hr, hp', _⟩
  · rw [h2] at hp; cases hp
  exact ⟨b', hp', hlt, hL.2.1, ⟨_, by rw [hr]; exact List.mem_singleton.2 rfl, rfl⟩⟩
theorem RG.cellE (hA : At w0 D g.parts.flatten w) (hL : VecL g.rL ERb g.lS g.es) (hx : g.es[i]? = some x) {bL : Nat} (hp : g.lS.p = some (bL, 0)) {j : Nat} (hj : j < 6) : w.cell? ⟨bL, (0 + i * 6) + j, none⟩ = (ERb.f x)[j]? := by
  obtain ⟨b, o, hp', _, hc⟩ := (RG.rdL hA hL).at hx
  rw [hp] at hp'
  simp only [Option.some.injEq, Prod.mk.injEq] at hp'
  obtain ⟨rfl, rfl⟩ := hp'
  exact hc j hj
theorem RG.ldE (hA : At w0 D g.parts.flatten w) (hL : VecL g.rL ERb g.lS g.es) (hx : g.es[i]? = some x) {bL : Nat} (hp : g.lS.p = some (bL, 0)) {j : Nat} (hj : j < 6) {k : Kd} (y : Den k) {K : Den k → Prop} (hy : (ERb.f x)[j]? = some (LV.mk k y).toV) (hK : K y) : Go.Vw.ld w k bL ((0 + i * 6) + j) K :=
  ⟨y, (RG.cellE hA hL hx hp hj).trans hy, hK⟩
theorem RG.stE (hA : At w0 D g.parts.flatten w) (hg : g.okB i) (hx : g.es[i]? = some x) {bL : Nat} (hp : g.lS.p = some (bL, 0)) {j : Nat} {vs : List LV} {y : Str × Sl × Bl} (hj : j + vs.length ≤ 6) (hs : spl (ERb.f x) j (vs.map LV.toV) = ERb.f y)
    (hv : ∀ r, g.ros[i]? = some r → VecL r EU y.2.1 y.2.2.data ∧ y.2.2.ok) {K : World → Prop} (hK : ∀ rL' w', At w0 D ({ g with rL := rL', es := g.es.set i y } : RG).parts.flatten w' → ({ g with rL := rL', es := g.es.set i y } : RG).ok → Mod (Ks g.rL) w w' → K w') : st w bL ((0 + i * 6) + j) vs K := by
  have h1 := At.part (L := g.parts) (i := 1) hA rfl
  have hi : i < g.es.length := (List.getElem?_eq_some_iff.1 hx).1
  refine h1.setLj hg.vL hx (j := j) (y := y) hj hs hp fun rL' w' hA' hv' hM => hK rL' w' (At.unpart (L := g.parts) (i := 1) rfl hA') ⟨hv', by simp [hg.n], by simp; exact hg.len, fun k z r hz hr => ?_⟩ hM
  replace hz : (g.es.set i y)[k]? = some z := hz
  replace hr : g.ros[k]? = some r := hr
  by_cases e : i = k
  · subst e
    rw [List.getElem?_set, if_pos rfl, if_pos hi] at hz
    have hz := Option.some.inj hz
    subst hz
    exact hv r hr
  · rw [List.getElem?_set, if_neg e] at hz
    exact hg.vec k z r (Ne.symm e) hz hr
/-- a blob's bytes grow -/
theorem RG.apE (hA : At w0 D g.parts.flatten w) (hg : g.ok) (hx : g.es[i]? = some x) {y : Sl} {d2 : List Int} (hr : RdS w EU y d2) (hl : x.2.2.data.length + d2.length ≤ 268435456) {K : Sl → World → Prop}
    (hK : ∀ t ro' w', At w0 D ({ g with ros := g.ros.set i ro' } : RG).parts.flatten w' → ({ g with ros := g.ros.set i ro' } : RG).okB i → (∀ r, (g.ros.set i ro')[i]? = some r → VecL r EU t (x.2.2.data ++ d2)) → (∀ r, g.ros[i]? = some r → Mod (Ks r) w w') → K t w') : ap w 5 1 1 [.int .u8 0] x.2.1 y K := by
  have hi : i < g.es.length := (List.getElem?_eq_some_iff.1 hx).1
  have hir : i < g.ros.length := by rw [hg.n]; exact hi
  have hri : g.ros[i]? = some g.ros[i] := List.getElem?_eq_getElem hir
  have hv := (hg.vec i x _ hx hri).1
  have hpi : g.parts[i + 2]? = some g.ros[i] := by simp [RG.parts, hri]
  have h1 := hA.part hpi
  refine appL h1 hv hr rfl rfl (by omega) fun t ro' w' hA' hv' hM _ => hK t ro' w' ?_ ⟨hg.vL, by simp [hg.n], hg.len, fun k z r hne hz hr => ?_⟩ ?_ ?_
  · have := At.unpart hpi hA'
    have e : g.parts.set (i + 2) ro' = ({ g with ros := g.ros.set i ro' } : RG).parts := by simp [RG.parts, RG.qc]
    rw [e] at this; exact this
  · have hr : (g.ros.set i ro')[k]? = some r := hr
    rw [List.getElem?_set, if_neg (Ne.symm hne)] at hr
    exact hg.vec k z r hz hr
  · intro r hr
    rw [List.getElem?_set] at hr
    simp [hir] at hr
    subst hr; exact hv'
  · intro r hr
    rw [hri] at hr
    simp only [Option.some.injEq] at hr
    subst hr; exact hM
theorem RG.notR (hA : At w0 D g.parts.flatten w) {r : BL} (hr : g.ros[i]? = some r) {k : Nat} (hk : Ks g.rL k) : ¬ Ks r k := by
  have hpi : g.parts[i + 2]? = some r := by simp [RG.parts, hr]
  have h1 := hA.part hpi
  obtain ⟨q, hq, rfl⟩ := hk
  have hq' : q ∈ (g.parts.eraseIdx (i + 2)).flatten := by
    simp only [RG.parts, List.eraseIdx_cons_succ, List.flatten_cons, List.mem_append]
    exact .inr (.inl hq)
  exact h1.notKs hq'
theorem RG.dataRd (hA : At w0 D g.parts.flatten w) (hg : g.ok) (hx : g.es[i]? = some x) : RdS w EU x.2.1 x.2.2.data := by
  have hi : i < g.es.length := (List.getElem?_eq_some_iff.1 hx).1
  have hri : g.ros[i]? = some (g.ros[i]'(by rw [hg.n]; exact hi)) := List.getElem?_eq_getElem (by rw [hg.n]; exact hi)
  have hpi : g.parts[i + 2]? = some (g.ros[i]'(by rw [hg.n]; exact hi)) := by simp [RG.parts, hri]
  exact (hg.vec i x _ hx hri).1.rd (hA.partBlk hpi)
theorem RG.okE (hg : g.ok) (hx : g.es[i]? = some x) : x.2.2.ok ∧ x.2.1.len = x.2.2.data.length := by
  have hi : i < g.es.length := (List.getElem?_eq_some_iff.1 hx).1
  have hri : g.ros[i]? = some (g.ros[i]'(by rw [hg.n]; exact hi)) := List.getElem?_eq_getElem (by rw [hg.n]; exact hi)
  exact ⟨(hg.vec i x _ hx hri).2, (hg.vec i x _ hx hri).1.1⟩
theorem RG.drew (hA : At w0 D g.parts.flatten w) : At w0 D g.parts.flatten w.drew := At.drew hA
end
/-! ### asking -/
theorem good_ok (n : Str) {w : World} (hn : n.length ≤ 1099511627776) {K : Bool → World → Prop} (hK : K (goodN n) w) : callK Try.prog 83 [.leaf (.str n)] w (.one (.leaf .bool)) K := by
  refine go_winnowref5_good _ _ _ ?_
  have hbad : ∀ {j : Nat} (hj : j < n.length), ¬ goodP n[j].toNat → goodN n = false := fun hj hx => by
    unfold goodN
    have : (n.all fun c => decide (goodP c.toNat)) = false := by
      apply Bool.eq_false_iff.2
      intro ha
      have := List.all_eq_true.1 ha _ (List.getElem_mem hj)
      exact hx (of_decide_eq_true this)
    rw [this, Bool.and_false]
  refine join0 (fun u => u = w ∧ ∀ c ∈ n, goodP c.toNat) ?_ ?_
  · intro k hk
    refine loop1 (k := .int .i64) (fun (i : Int) u => u = w ∧ ∃ j : Nat, i = j ∧ j ≤ n.length ∧ ∀ c ∈ n.take j, goodP c.toNat) (fun i _ => (n.length - i).toNat) (x := 0) rfl ⟨rfl, 0, rfl, by omega, by simp⟩ ?_
    rintro i u ⟨rfl, j, rfl, hj, hg⟩
    refine ifK_intro (fun h => ?_) fun h => ?_
    · have hlt : j < n.length := dlt h
      refine ⟨n[j], by rw [Int.toNat_natCast, List.getElem?_eq_getElem hlt], by omega, ?_⟩
      have hb := hbad hlt
      generalize hx : ((n[j].toNat : Nat) : Int) = x at hb
      refine join1 (fun b u' => u' = u ∧ (b = true ↔ ¬ goodP x)) ?_ ?_
      · intro k2 hk2
        have lf : ∀ {b : Bool}, (b = true ↔ ¬ goodP x) → k2 b u := fun hb => hk2 _ _ ⟨rfl, hb⟩
        unfold goodP at lf
        refine ifK_intro (fun h1 => ifK_intro (fun h2 => ifK_intro (fun h3 => lf ?_) (fun h3 => lf ?_)) fun h2 => ifK_intro (fun h3 => ifK_intro (fun h4 => lf ?_) (fun h4 => lf ?_)) fun h3 => lf ?_)
          fun h1 => ifK_intro (fun h2 => ifK_intro (fun h3 => ifK_intro (fun h4 => lf ?_) (fun h4 => lf ?_)) fun h3 => ifK_intro (fun h4 => ifK_intro (fun h5 => lf ?_) (fun h5 => lf ?_)) fun h4 => lf ?_) fun h2 => lf ?_
        all_goals (clear hb hg hx; simp only [decide_eq_true_eq, decide_eq_false_iff_not, bne_iff_ne, bne_eq_false_iff_eq, ne_eq, Bool.false_eq_true, false_iff, Classical.not_not] at *; omega)
      · rintro b u' ⟨rfl, hb2⟩
        refine ifK_intro (fun h2 => ?_) fun h2 => ?_
        · rw [hb (hb2.1 h2)] at hK; exact hK
        · have hgx : goodP x := Classical.byContradiction fun hn => by rw [hb2.2 hn] at h2; cases h2
          refine ⟨⟨rfl, j + 1, step64 (by omega), by omega, ?_⟩, by rw [step64 (by omega)]; omega⟩
          intro c hc
          rw [List.take_add_one, List.mem_append] at hc
          rcases hc with hc | hc
          · exact hg c hc
          · rw [List.getElem?_eq_getElem hlt] at hc
            simp at hc; subst hc; rw [hx]; exact hgx
    · have hlt : n.length ≤ j := dge h
      rw [List.take_of_length_le hlt] at hg
      exact hk _ ⟨rfl, hg⟩
  · rintro u ⟨rfl, hall⟩
    have ha : (n.all fun c => decide (goodP c.toNat)) = true := List.all_eq_true.2 fun c hc => decide_eq_true (hall c hc)
    refine join1 (fun b u' => u' = u ∧ b = goodN n) ?_ (by rintro b u' ⟨rfl, rfl⟩; exact hK)
    intro k hk
    refine ifK_intro (fun h => hk _ _ ⟨rfl, ?_⟩) fun h => hk _ _ ⟨rfl, ?_⟩
    · have h : (1 : Int) ≤ (n.length : Int) := of_decide_eq_true h
      unfold goodN
      rw [ha, decide_eq_true (p := 1 ≤ n.length) (by omega)]
      simp
      omega
    · have h : ¬ (1 : Int) ≤ (n.length : Int) := of_decide_eq_false h
      unfold goodN
      rw [decide_eq_false (p := 1 ≤ n.length) (by omega)]; rfl
end Go.Proofs.Ytjldecomhpngmaa
