/- The reference's Groups, walked. -/
import Derived.Test.YtfhojgammfkabaaG1
namespace Go.Proofs.Ytfhojgammfkabaa
open Go.Vw

abbrev GI := Str × It
def GI.el (g : GI) : Str × Sl := (g.1, g.2.sl)
def GI.gr (g : GI) : Str × List Str := (g.1, g.2.vals)
def GI.blk (g : GI) : Nat × List Value := g.2.blk
/-- a slice of texts that is not empty: an item -/
theorem item_of {rl : List (Nat × List Value)} {s : Sl} {vs : List Str} (h : VecE rl EStr s vs) (hne : vs ≠ []) : ∃ it : It, it.Ok ∧ it.vals = vs ∧ it.sl = s ∧ rl = [it.blk] := by
  obtain ⟨hl, h⟩ := h
  rcases h with ⟨_, _, _, h⟩ | ⟨b, rest, h1, h2, h3⟩
  · exact absurd h hne
  · obtain ⟨p, n, c⟩ := s
    simp only at hl h2 h3
    subst hl; subst h2
    refine ⟨⟨b, c, vs, rest⟩, ?_, rfl, rfl, h1⟩
    unfold It.Ok
    rw [h3]; simp [EStr]
theorem VecE.of_item {it : It} (h : it.Ok) : VecE [it.blk] EStr it.sl it.vals := ⟨rfl, .inr ⟨it.b, it.rest, rfl, rfl, by unfold It.Ok at h; rw [h]; simp [EStr, It.sl]⟩⟩
theorem ref_groups {w : World} {pr : Sl} {ps : List (Str × Str)} (hp : RdS w EPr pr ps) (hl : ps.length ≤ 1048576) {K : Sl → World → Prop}
    (hK : ∀ (out : Sl) (gi : List GI) ro w', At w (fun _ => False) (gi.map GI.blk ++ ro) w' → VecE ro EGr out (gi.map GI.el) → gi.map GI.gr = grp ps → (∀ g ∈ gi, g.2.Ok) → K out w') : callK Try.prog 11 [.leaf (.sl pr)] w (.one (.leaf .sl)) K := by
  refine go_winnowref11_Groups _ _ _ ?_
  unfold S_winnowref11_Groups
  refine join1 (a := .sl) (fun out w' => ∃ (gi : List GI) (ro : List (Nat × List Value)), At w (fun _ => False) (gi.map GI.blk ++ ro) w' ∧ VecE ro EGr out (gi.map GI.el) ∧ gi.map GI.gr = grp ps ∧ ∀ g ∈ gi, g.2.Ok) (fun k hk => ?_) fun out w' ⟨gi, ro, h1, h2, h3, h4⟩ => hK out gi ro w' h1 h2 h3 h4
  refine loop2 (k1 := .sl) (k2 := .int .i64) (fun l x w' => ∃ (i : Nat) (gi : List GI) (ro : List (Nat × List Value)), x = i ∧ i ≤ ps.length ∧ At w (fun _ => False) (gi.map GI.blk ++ ro) w' ∧ VecE ro EGr l (gi.map GI.el) ∧ gi.map GI.gr = grp (ps.take i) ∧ ∀ g ∈ gi, g.2.Ok) (fun _ x _ => ps.length - x.toNat) rfl rfl
    ⟨0, [], [], rfl, Nat.zero_le _, At.init _ _, VecE.nil _, rfl, by simp⟩ ?_
  rintro l x w6 ⟨i, gi, ro, rfl, hi, hA, hv, hg, hok⟩
  refine ifK_intro (fun hlt => ?_) (fun hlt => ?_)
  rotate_left
  · have hge : i = ps.length := by rw [hp.len] at hlt; have : ¬ i < ps.length := by simpa using hlt
                                   omega
    subst hge
    rw [List.take_length] at hg
    exact hk _ _ ⟨gi, ro, hA, hv, hg, hok⟩
  have hlt' : i < ps.length := by rw [hp.len] at hlt; simpa using hlt
  obtain ⟨pk, pv, hpi⟩ : ∃ a b, ps[i]? = some (a, b) := ⟨ps[i].1, ps[i].2, List.getElem?_eq_getElem hlt'⟩
  have hgl : gi.length ≤ i := by
    have h1 := congrArg List.length hg
    have h2 := (grp_len (ps.take i)).1
    simp at h1 h2; omega
  have hll : l.len = gi.length := by rw [hv.1]; simp
  have hstep := grp_step hpi
  rw [← hg] at hstep
  have hpr : ∀ {w' : World}, Mod (fun _ => False) w w' → RdS w' EPr pr ps := fun hM => hp.keep hM fun _ _ => id
  have hvlen : ∀ g ∈ gi, g.2.vals.length ≤ 1048576 := fun g hgm => by
    have h1 : g.gr ∈ grp (ps.take i) := by rw [← hg]; exact List.mem_map_of_mem hgm
    have := ((grp_len (ps.take i)).2 _ h1).2
    simp [GI.gr] at this; omega
  -- is it a new group?
  refine join1 (a := .bool) (fun b w' => At w (fun _ => False) (gi.map GI.blk ++ ro) w' ∧ b = decide (∀ g, gi.getLast? = some g → g.1 ≠ pk)) (fun k2 hk2 => ?_) ?_
  · refine ⟨fun _ => False, ?_⟩
    have hA8 := hA.drew
    refine ifK_intro (fun h0 => hk2 _ _ ⟨hA8, ?_⟩) (fun h0 => ?_)
    · have : gi = [] := List.eq_nil_of_length_eq_zero (by rw [hll] at h0; have : ((gi.length : Nat) : Int) = 0 := by simpa using h0
                                                          omega)
      simp [this]
    · have hne : gi ≠ [] := by rintro rfl; rw [hll] at h0; simp at h0
      obtain ⟨g, hgl'⟩ : ∃ g, gi.getLast? = some g := ⟨_, List.getLast?_eq_some_getLast hne⟩
      have hlast : (gi.map GI.el)[gi.length - 1]? = some g.el := by rw [List.getElem?_map, ← List.getLast?_eq_getElem?, hgl']; rfl
      have hpos : 0 < gi.length := List.length_pos_iff.2 hne
      refine (VecE.of_at hA8 hv).rd.ix rfl (by rw [hll, w64_in (by omega) (by omega)]; omega : w64 ((l.len : Int) - 1) = ((gi.length - 1 : Nat) : Int)) hlast fun b o _ hc => ldD_cell (k := .str) g.1 id (hc 0 (by decide)) ?_
      refine (hpr hA8.mod).ix rfl rfl hpi fun b o _ hc => ldD_cell (k := .str) pk id (hc 0 (by decide)) (hk2 _ _ ⟨hA8, ?_⟩)
      by_cases e : g.1 = pk
      · have : ¬ (∀ g, gi.getLast? = some g → g.1 ≠ pk) := fun h => h g hgl' e
        rw [decide_eq_false this]; simp [e]
      · have : ∀ g, gi.getLast? = some g → g.1 ≠ pk := fun g' h' => by rw [hgl'] at h'; cases h'; exact e
        rw [decide_eq_true this]
        have e2 : (g.1 == pk) = false := beq_false_of_ne e
        rw [e2]; rfl
  rintro _ w16 ⟨hA16, rfl⟩
  refine join2 (a := .sl) (b := .int .i64) (fun l25 n w' => ∃ (pre : List GI) (kl : Str) (sl : Sl) (vs : List Str) (rl ro : List (Nat × List Value)), n = ((pre.length + 1 : Nat) : Int) ∧ At w (fun _ => False) ((pre.map GI.blk ++ ro) ++ rl) w' ∧ VecE ro EGr l25 (pre.map GI.el ++ [(kl, sl)]) ∧ VecE rl EStr sl vs ∧
      pre.map GI.gr ++ [(kl, vs ++ [pv])] = grp (ps.take (i + 1)) ∧ (∀ g ∈ pre, g.2.Ok) ∧ vs.length ≤ 1048576 ∧ pre.length ≤ i) (fun k2 hk2 => ?_) ?_
  · refine ifK_intro (fun hnew => ?_) (fun hold => ?_)
    · have hnew : ∀ g, gi.getLast? = some g → g.1 ≠ pk := of_decide_eq_true hnew
      refine (hpr hA16.mod).ix rfl rfl hpi fun b o _ hc => ld_cell (k := .str) pk (hc 0 (by decide)) ?_
      refine hA16.alK fun b21 w22 _ hA22 _ => ?_
      have hA22' : At w (fun _ => False) ((gi.map GI.blk ++ [(b21, EGr.f (pk, ⟨none, 0, 0⟩))]) ++ ro) w22 := hA22.perm (perm_tail3 _ _ _)
      have hx22 : RdS w22 EGr ⟨some (b21, 0), 1, 1⟩ [(pk, ⟨none, 0, 0⟩)] := rd_one (hA22'.own (b21, EGr.f (pk, ⟨none, 0, 0⟩)) (by simp))
      refine hA22'.app hv hx22 rfl rfl (by simp; omega) fun a23 ro' w24 hA24 hv24 _ => ?_
      refine hk2 _ _ _ ⟨gi, pk, ⟨none, 0, 0⟩, [], [], ro', ?_, ?_, hv24, VecE.nil _, ?_, hok, by simp, hgl⟩
      · rw [hll, set_step (by omega)]
      · rw [List.append_nil]
        exact hA24.sub (List.Sublist.append_right (List.sublist_append_left _ _) _)
      · rw [hstep]
        rcases List.eq_nil_or_concat gi with h | ⟨T, z, h⟩
        · rw [h]; rfl
        · rw [List.concat_eq_append] at h
          have hz := hnew z (by rw [h]; simp)
          rw [h, List.map_append]
          exact (addG_new (T := T.map GI.gr) (k := z.1) (vs := z.2.vals) (p := (pk, pv)) hz).symm
    · have hold : ¬ ∀ g, gi.getLast? = some g → g.1 ≠ pk := of_decide_eq_false hold
      rcases List.eq_nil_or_concat gi with h | ⟨T, z, h⟩
      · exact absurd (fun g hg' => by rw [h] at hg'; cases hg') hold
      · rw [List.concat_eq_append] at h
        have hz : z.1 = pk := by
          by_cases e : z.1 = pk
          · exact e
          · exact absurd (fun g hg' => by rw [h] at hg'; simp at hg'; subst hg'; exact e) hold
        subst h
        have hzo := hok z (by simp)
        refine hk2 _ _ _ ⟨T, pk, z.2.sl, z.2.vals, [z.2.blk], ro, ?_, ?_, ?_, VecE.of_item hzo, ?_, fun g hgm => hok g (by simp [hgm]), hvlen z (by simp), by simp at hgl; omega⟩
        · rw [hll]; simp
        · refine hA16.perm ?_
          rw [List.map_append]
          exact perm_tail3 _ _ _
        · rw [List.map_append] at hv
          rw [← hz]; exact hv
        · rw [hstep, List.map_append, ← hz]
          exact (addG_same (T.map GI.gr) z.1 z.2.vals pv).symm
  rintro l25 n w27 ⟨pre, kl, sl, vs, rl, ro2, rfl, hA27, hv27, hvl, hgr, hpok, hvsl, hprel⟩
  refine ⟨Ks rl, ?_⟩
  have hA28 := hA27.drew
  have hro28 : ∀ p ∈ ro2, ¬ Ks rl p.1 := fun p hp' => hA28.notKs (List.mem_append_right _ hp')
  have hwrl : ∀ x, x < w.heap.size → ¬ Ks rl x := by rintro x hx ⟨q, hq, rfl⟩; exact hA28.wr q (List.mem_append_right _ hq) hx
  have hr28 : RdS w27.drew EGr l25 (pre.map GI.el ++ [(kl, sl)]) := (hv27.vec fun p hp' => hA28.own p (List.mem_append_left _ (List.mem_append_right _ hp'))).rd
  have hidx : w64 (((pre.length + 1 : Nat) : Int) - 1) = ((pre.length : Nat) : Int) := by rw [w64_in (by omega) (by omega)]; omega
  have hlast : (pre.map GI.el ++ [(kl, sl)])[pre.length]? = some (kl, sl) := by simp
  have hkb : ∀ b, rk l25 b → ¬ Ks rl b := fun b hb => by
    obtain ⟨q, hq, e⟩ := hv27.key hb.2
    rw [← e]; exact hro28 q hq
  refine hr28.ix rfl hidx hlast fun b o hb hc => ldD_cell (k := .sl) sl (hkb b hb) (hc 1 (by decide)) ?_
  have hpr28 := hpr hA28.mod
  refine hpr28.ix rfl rfl hpi fun b o hb hc => ldD_cell (k := .str) pv ?_ (hc 1 (by decide)) ?_
  · exact hwrl b (hp.rk_lt (by rintro rfl; simp at hlt') hb)
  refine hA28.alK fun b35 w36 _ hA36 M36 => ⟨M36.mono fun _ _ h => h.elim, ?_⟩
  have hA36' : At w (fun _ => False) (((pre.map GI.blk ++ ro2) ++ [(b35, EStr.f pv)]) ++ rl) w36 := hA36.perm (perm_tail3 _ _ _)
  have hx36 : RdS w36 EStr ⟨some (b35, 0), 1, 1⟩ [pv] := rd_one (hA36'.own (b35, EStr.f pv) (by simp))
  refine hA36'.app hvl hx36 rfl rfl (by simp; omega) fun a37 rl' w38 hA38 hv38 M38 => ⟨M36.trans M38 (fun _ _ h => h.elim) fun _ _ h => h, ?_⟩
  obtain ⟨it, io, iv, isl, hrl'⟩ := item_of hv38 (by simp)
  subst hrl'
  have hA38' : At w (fun _ => False) ((pre.map GI.blk ++ ro2) ++ [it.blk]) w38 := hA38.sub (List.Sublist.append_right (List.sublist_append_left _ _) _)
  rcases hv27 with ⟨hl27, hv27⟩
  rcases hv27 with ⟨_, _, _, hnil⟩ | ⟨bo, rest, hro, hpo, hlo⟩
  · exact absurd hnil (by simp)
  subst hro
  have hl25 : l25.len = pre.length + 1 := by rw [hl27]; simp
  have hhas : l25.len ≤ l25.cap := by
    rw [List.length_append, EGr.cells_length, ← hl27] at hlo
    have e : EGr.n = 2 := rfl
    rw [e] at hlo; omega
  refine ix_some (hc := hhas) hpo (by rw [hidx]; omega) (by rw [hidx, hl25]; omega) ?_
  rw [hidx]
  have hset := EGr.cells_set (pre.map GI.el ++ [(kl, sl)]) pre.length 1 [(LV.sl a37).toV] (kl, sl) (kl, a37) rest hlast (Nat.le_refl 2) rfl
  have hA38p : At w (fun _ => False) ((pre.map GI.blk ++ [it.blk]) ++ [(bo, EGr.cells (pre.map GI.el ++ [(kl, sl)]) ++ rest)]) w38 := hA38'.perm (perm_tail3 _ _ _)
  refine At.last hA38p (o := 0 + ((pre.length : Nat) : Int).toNat * 2 + 1) (vs := [.sl a37]) ?_ fun w41 hA41 => ?_
  · rw [List.length_append, EGr.cells_length]
    have e : EGr.n = 2 := rfl
    rw [e]; simp; omega
  have e : 0 + ((pre.length : Nat) : Int).toNat * 2 + 1 = pre.length * EGr.n + 1 := by simp [EGr]
  rw [e] at hA41
  have hset' : spl (EGr.cells (pre.map GI.el ++ [(kl, sl)]) ++ rest) (pre.length * EGr.n + 1) (List.map LV.toV [.sl a37]) = EGr.cells ((pre ++ [(kl, it)]).map GI.el) ++ rest := by
    have h1 : (pre.map GI.el ++ [(kl, sl)]).set pre.length (kl, a37) = (pre ++ [(kl, it)]).map GI.el := by
      rw [List.set_append_right _ _ (by simp)]
      simp [GI.el, isl]
    rw [← h1]; exact hset
  rw [hset'] at hA41
  rw [set_step (by omega)]
  refine ⟨⟨i + 1, pre ++ [(kl, it)], [(bo, EGr.cells ((pre ++ [(kl, it)]).map GI.el) ++ rest)], rfl, hlt', ?_, ⟨by rw [hl25]; simp, .inr ⟨bo, rest, rfl, hpo, ?_⟩⟩, ?_, fun g hgm => ?_⟩, by simp; omega⟩
  · rw [List.map_append]; exact hA41
  · rw [← hlo]; simp [EGr.cells_length]
  · rw [← hgr]; simp [GI.gr, iv]
  · rcases List.mem_append.1 hgm with h | h
    · exact hpok g h
    · simp at h; subst h; exact io
end Go.Proofs.Ytfhojgammfkabaa
