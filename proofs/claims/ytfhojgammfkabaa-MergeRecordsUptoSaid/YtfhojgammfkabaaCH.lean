/- merge.Records, walked. -/
import Derived.Test.YtfhojgammfkabaaCE
import Derived.Test.YtfhojgammfkabaaT6
import Derived.Test.YtfhojgammfkabaaQ7
namespace Go.Proofs.Ytfhojgammfkabaa.Rc
open Go.Vw

theorem remQ_LQ (Ls : List (List Thing)) : remQ (LQ Ls) Ls.length = Ls.flatten.length := by rw [← cat_length, cat_LQ]
theorem perm_cl (m ro a b c : List (Nat × List Value)) : ((((m ++ ro) ++ a) ++ b) ++ c).Perm ((m ++ (b ++ a) ++ c) ++ ro) := by
  have h1 : (((m ++ ro) ++ a) ++ b).Perm ((m ++ (b ++ a)) ++ ro) := by
    refine (List.Perm.append_right b (perm_tail3 m ro a)).trans ((perm_tail3 _ _ _).trans (List.Perm.append_right ro ?_))
    rw [List.append_assoc]
    exact List.Perm.append_left m List.perm_append_comm
  exact (List.Perm.append_right c h1).trans (perm_tail3 _ _ _)
theorem records_ok {w : World} {s : Sl} {xs : List Sl} {Ls : List (List Thing)} (h : LsAt w s xs Ls) (hlo : ∀ x ∈ xs, ∀ b, rk x b → b < w.heap.size) (hn : Ls.length ≤ 1048576) (htot : Ls.flatten.length ≤ 1048576) (hg : ∀ L ∈ Ls, ∀ x ∈ L, Gd x) {K : Sl → Int → World → Prop}
    (hK : ∀ out w', Vec w' ET out (recs Ls).1 → (∀ b, bk out b → w.heap.size ≤ b) → Mod (fun _ => False) w w' → K out (recs Ls).2 w') :
    callK Try.prog 36 [.leaf (.sl s)] w (.tup [.leaf .sl, .leaf (.int .i64)]) K := by
  refine go_merge_Records _ _ _ ?_
  unfold S_merge_Records
  have hsl : (s.len : Int) = Ls.length := by rw [h.rd.len, h.len]
  have hbknil : ∀ b, bk (⟨none, 0, 0⟩ : Sl) b → w.heap.size ≤ b := fun b hb => by obtain ⟨o, h⟩ := hb; cases h
  have hpart : ∀ i, i < Ls.length → (Ls.take (i + 1)).flatten.length = (Ls.take i).flatten.length + (Ls[i]?.getD []).length ∧ (Ls.take (i + 1)).flatten.length ≤ Ls.flatten.length := fun i hi => by
    have h1 : Ls.flatten = (Ls.take (i + 1)).flatten ++ (Ls.drop (i + 1)).flatten := by rw [← List.flatten_append, List.take_append_drop]
    refine ⟨?_, by rw [h1, List.length_append]; omega⟩
    rw [List.take_add_one, List.flatten_append, List.length_append, List.getElem?_eq_getElem hi]; simp
  refine join2 (a := .sl) (b := .int .i64) (fun from_ n w' => n = ((Ls.flatten.length : Nat) : Int) ∧ ∃ (cs : List Cl) (ro : List (Nat × List Value)), cs.map (fun c => c.2.2) = xs ∧ At w (fun _ => False) (clM cs ++ ro) w' ∧ VecE ro EF from_ (cs.map Cl.v)) (fun k hk => ?_) ?_
  · refine loop3 (k1 := .sl) (k2 := .int .i64) (k3 := .int .i64) (fun from_ n x w' => ∃ (i : Nat) (cs : List Cl) (ro : List (Nat × List Value)), x = i ∧ i ≤ Ls.length ∧ n = (((Ls.take i).flatten.length : Nat) : Int) ∧ cs.map (fun c => c.2.2) = xs.take i ∧ At w (fun _ => False) (clM cs ++ ro) w' ∧ VecE ro EF from_ (cs.map Cl.v)) (fun _ _ x _ => Ls.length - x.toNat) rfl rfl rfl
      ⟨0, [], [], rfl, Nat.zero_le _, by simp, by simp, At.init _ _, VecE.nil _⟩ ?_
    rintro from_ n x w7 ⟨i, cs, ro, rfl, hi, rfl, hcs, hA, hv⟩
    rw [hsl]
    refine ifK_intro (fun hlt => ?_) (fun hlt => ?_)
    rotate_left
    · have hge : i = Ls.length := Nat.le_antisymm hi (dge hlt)
      subst hge
      rw [List.take_length]
      rw [h.len, List.take_length] at hcs
      exact hk _ _ _ ⟨rfl, cs, ro, hcs, hA, hv⟩
    have hlt' : i < Ls.length := dlt hlt
    obtain ⟨L, hL⟩ : ∃ L, Ls[i]? = some L := ⟨_, List.getElem?_eq_getElem hlt'⟩
    obtain ⟨sx, hsx⟩ : ∃ sx, xs[i]? = some sx := ⟨_, List.getElem?_eq_getElem (by rw [← h.len]; exact hlt')⟩
    obtain ⟨p1, p2⟩ := hpart i hlt'
    rw [hL] at p1
    simp only [Option.getD_some] at p1
    have hcl : cs.length = i := by
      have := congrArg List.length hcs
      rw [List.length_map, List.length_take, ← h.len] at this; omega
    refine (h.rd.keep hA.mod fun _ _ => id).ix rfl rfl hsx fun b o _ hc => ld_cell (k := .sl) sx (hc 0 (by decide)) ?_
    refine hA.alK fun b11 w12 _ hA12 _ => ?_
    refine At.last hA12 (Nat.le_refl 1) fun w13 hA13 => ?_
    have hA13 : At w (fun _ => False) ((clM cs ++ ro) ++ [(b11, [(LV.sl sx).toV])]) w13 := hA13
    refine hA13.ldLast (k := .sl) sx rfl ?_
    refine hA13.alK fun b15 w16 _ hA16 _ => ?_
    refine At.last hA16 (Nat.le_refl 1) fun w17 hA17 => ?_
    have hA17 : At w (fun _ => False) (((clM cs ++ ro) ++ [(b11, [(LV.sl sx).toV])]) ++ [(b15, [.int .i64 0])]) w17 := hA17
    refine ⟨fun z hz => by simp at hz; subst hz; rfl, ?_⟩
    refine hA17.alK fun b18 w19 _ hA19 _ => ?_
    have hA19 := hA19.perm (perm_cl (clM cs) ro [(b11, [(LV.sl sx).toV])] [(b15, [.int .i64 0])] _).symm
    have hr19 : RdS w19 EF ⟨some (b18, 0), 1, 1⟩ [Cl.v (b15, b11, sx)] := rd_one (by rw [EF_f (Cl.v_fn _)]; exact hA19.own (b18, [Cl.v (b15, b11, sx)]) (by simp [Cl.v, LV.toV]))
    refine hA19.app hv hr19 rfl rfl (by simp [hcl]; omega) fun from2 ro' w21 hA21 hv21 _ => ?_
    have hA21 : At w (fun _ => False) (clM (cs ++ [(b15, b11, sx)]) ++ ro') w21 := by
      rw [clM_app]
      refine hA21.sub (List.Sublist.append_right ?_ _)
      exact List.sublist_append_left _ _
    have hsxl : (sx.len : Int) = L.length := by rw [(h.each i sx L hsx hL).len]
    rw [set_step (by omega)]
    have e1 : w64 ((((Ls.take i).flatten.length : Nat) : Int) + (sx.len : Int)) = (((Ls.take (i + 1)).flatten.length : Nat) : Int) := by rw [hsxl, w64_in (by omega) (by omega)]; omega
    rw [e1]
    refine ⟨⟨i + 1, cs ++ [(b15, b11, sx)], ro', rfl, hlt', rfl, ?_, hA21, by rw [List.map_append]; exact hv21⟩, by simp; omega⟩
    rw [List.map_append, hcs, List.take_add_one, hsx]; rfl
  rintro from22 n23 w24 ⟨rfl, cs, ro, hcs, hA24, hv24⟩
  have hcl : cs.length = Ls.length := by rw [h.len, ← hcs]; simp
  have hr24 : RdS w24 EF from22 (cs.map Cl.v) := (VecE.of_at hA24 hv24).rd
  have hfn : ∀ v ∈ cs.map Cl.v, isFn v := fun v hv => by obtain ⟨c, _, rfl⟩ := List.mem_map.1 hv; exact Cl.v_fn c
  have hcv : isFn (.func (.func 52) #[] #[]) := ⟨_, _, _, rfl⟩
  by_cases hbig : 64 < Ls.length
  · refine new_big hcv hr24 hfn (by simp [hcl]; omega) (by simp [hcl]; omega) ?_
    refine ifK_t rfl ?_
    have he : recs Ls = ([], 3) := by unfold recs; rw [if_pos hbig]
    have := hK ⟨none, 0, 0⟩ w24; rw [he] at this
    exact this (Vec.nil _ _) hbknil hA24.mod
  refine new_ok hcv hr24 hfn (by simp [hcl]; omega) fun w27 y hAy hy => ?_
  refine ifK_f rfl ?_
  -- the sources
  have hget : ∀ {i : Nat}, i < cs.length → ∃ c, cs[i]? = some c ∧ xs[i]? = some c.2.2 := fun {i} hi => by
    refine ⟨cs[i], List.getElem?_eq_getElem hi, ?_⟩
    rw [← hcs, List.getElem?_map, List.getElem?_eq_getElem hi]; rfl
  have hnd := hA24.nodup
  rw [List.map_append, List.nodup_append] at hnd
  have hdis := clM_nd hnd.1
  have hge : ∀ {i : Nat} {c : Cl}, cs[i]? = some c → w.heap.size ≤ c.1 ∧ w.heap.size ≤ c.2.1 := fun {i c} hc => by
    obtain ⟨m1, m2⟩ := clM_mem hc
    exact ⟨Nat.not_lt.1 fun hlt => hA24.wr _ (List.mem_append_left _ m1) hlt, Nat.not_lt.1 fun hlt => hA24.wr _ (List.mem_append_left _ m2) hlt⟩
  generalize hfe : mkC cs Ls w.heap.size = f
  have hfn' : f.n = cs.length := by rw [← hfe]; rfl
  have hfL : f.L = LQ Ls := by rw [← hfe]; rfl
  have hfb : f.base = w.heap.size := by rw [← hfe]; rfl
  have hfi : ∀ {i : Nat} {c : Cl}, cs[i]? = some c → f.ba i = c.1 ∧ f.bl i = c.2.1 ∧ f.sl i = c.2.2 := fun {i c} hc => by rw [← hfe]; simp [mkC, hc]
  have hLi : ∀ {i : Nat}, i < cs.length → ∃ L, Ls[i]? = some L ∧ f.L i = L := fun {i} hi => by
    refine ⟨Ls[i]'(by omega), List.getElem?_eq_getElem (by omega), ?_⟩
    rw [hfL]; simp [LQ, show i < Ls.length by omega]
  have hLlen : ∀ {i : Nat} {L : List Thing}, Ls[i]? = some L → L.length ≤ 1048576 := fun {i L} hL => by
    have hi := (List.getElem?_eq_some_iff.1 hL).1
    obtain ⟨p1, p2⟩ := hpart i hi
    rw [hL] at p1
    simp only [Option.getD_some] at p1
    omega
  have hok : f.Ok := by
    refine ⟨fun i j hi hj e => ?_, fun i j hi hj e => ?_, fun i hi => ?_, fun i hi => ?_, fun i hi b hb => ?_, fun i hi => ?_, fun i hi x hx => ?_⟩
    · rw [hfn'] at hi hj
      obtain ⟨c, hc, _⟩ := hget hi
      obtain ⟨d, hd, _⟩ := hget hj
      rw [(hfi hc).1, (hfi hd).1] at e
      exact (hdis i j c d hc hd).1 e
    · rw [hfn'] at hi hj
      obtain ⟨c, hc, _⟩ := hget hi
      obtain ⟨d, hd, _⟩ := hget hj
      rw [(hfi hc).1, (hfi hd).2.1] at e
      exact (hdis i j c d hc hd).2.1 e
    · rw [hfn'] at hi
      obtain ⟨c, hc, _⟩ := hget hi
      rw [hfb, (hfi hc).1]; exact (hge hc).1
    · rw [hfn'] at hi
      obtain ⟨c, hc, _⟩ := hget hi
      rw [hfb, (hfi hc).2.1]; exact (hge hc).2
    · rw [hfn'] at hi
      obtain ⟨c, hc, hx⟩ := hget hi
      rw [(hfi hc).2.2] at hb
      rw [hfb]; exact hlo _ (List.mem_of_getElem? hx) b hb
    · rw [hfn'] at hi
      obtain ⟨L, hL, e⟩ := hLi hi
      rw [e]; have := hLlen hL; omega
    · rw [hfn'] at hi
      obtain ⟨L, hL, e⟩ := hLi hi
      rw [e] at hx
      exact hg L (List.mem_of_getElem? hL) x hx
  have hbl : ∀ i j, i < f.n → j < f.n → f.bl i = f.bl j → i = j := fun i j hi hj e => by
    rw [hfn'] at hi hj
    obtain ⟨c, hc, _⟩ := hget hi
    obtain ⟨d, hd, _⟩ := hget hj
    rw [(hfi hc).2.1, (hfi hd).2.1] at e
    exact (hdis i j c d hc hd).2.2 e
  let F : Nat → Prop := fun b => ∃ i, i < f.n ∧ (b = f.ba i ∨ b = f.bl i)
  have hFge : ∀ b, F b → w.heap.size ≤ b := by
    rintro b ⟨i, hi, e | e⟩
    · rw [e, ← hfb]; exact hok.low i hi
    · rw [e, ← hfb]; exact hok.lowl i hi
  have hI : f.I (fun _ => 0) F w24 := by
    refine ⟨fun b => Iff.rfl, fun i hi => ?_, fun i hi => ?_, fun i hi => ?_, fun i hi => Nat.zero_le _⟩
    · rw [hfn'] at hi
      obtain ⟨c, hc, _⟩ := hget hi
      rw [(hfi hc).1]
      exact hA24.own _ (List.mem_append_left _ (clM_mem hc).1)
    · rw [hfn'] at hi
      obtain ⟨c, hc, _⟩ := hget hi
      rw [(hfi hc).2.1, (hfi hc).2.2]
      exact hA24.own _ (List.mem_append_left _ (clM_mem hc).2)
    · rw [hfn'] at hi
      obtain ⟨c, hc, hx⟩ := hget hi
      obtain ⟨L, hL, e⟩ := hLi hi
      rw [(hfi hc).2.2, e]
      exact (h.each i _ L hx hL).keep hA24.mod fun _ _ => id
  have hvl : (cs.map Cl.v).length = f.n := by rw [hfn']; simp
  obtain ⟨hof, hmf, hrel⟩ := start_of hok hbl hI (by rw [hfb]; exact hA24.mod.size) hvl (fun i hi => by
    rw [hfn'] at hi
    obtain ⟨c, hc, _⟩ := hget hi
    rw [List.getElem?_map, hc]
    show some (Cl.v c) = some (.func (.func 50) #[] #[(LV.toV (.ptr (some (f.ba i, 0)))), (LV.toV (.ptr (some (f.bl i, 0))))])
    rw [(hfi hc).1, (hfi hc).2.1]; rfl) hAy hy
  have hyn : y.n = Ls.length := by rw [← hof.n]; exact hfn'.trans hcl
  have hcv' : CmpOk y.cv cmpT := by rw [hy.cv]; exact compare_ok
  have hS := f.lists hok hbl
  generalize hOUT : (runM Ls.length (fun _ => 0) (LQ Ls)).1 = OUT
  generalize hERR : (runM Ls.length (fun _ => 0) (LQ Ls)).2 = ERR
  have hOl : OUT.length ≤ Ls.flatten.length := by rw [← hOUT, ← remQ_LQ]; exact runM_len
  have ht0 : Tell (f.src hok hbl) (fun _ => 0) f.St (remQ f.L f.n) (fun _ => True) (s0 f.n, []) (fun _ => 0) 0 OUT ERR := by
    refine .start rfl rfl rfl rfl hrel ?_ rfl fun R hR => trivial
    show runM f.n (fun _ => 0) f.L = _
    rw [hfn', hcl, hfL, ← hOUT, ← hERR]
  -- the answer's slice
  refine mk0 ET (0, [], []) Ls.flatten.length rfl rfl (by omega) (by omega) fun w29 ra hA29 hv29 => ?_
  have hm29 := (hmf.calm hA29.mod)
  have hra : ∀ p ∈ ra, w27.heap.size ≤ p.1 := fun p hp => Nat.not_lt.1 fun hlt => hA29.wr p hp hlt
  have hA29' : At w27 (Ks []) ra w29 := hA29.weaken fun _ _ h => h.elim
  have hm29 : MF (f.src hok hbl) w24 F y (s0 f.n, []) ra (fun _ => 0) F w29 := hmf.law hA29'
  refine hm29.rest.alK fun b30 w31 _ hA31 _ => ?_
  refine At.last hA31 (Nat.le_refl 1) fun w32 hA32 => ?_
  generalize hz0 : (⟨some (w27.heap.size, 0), 0, Ls.flatten.length⟩ : Sl) = z0 at hv29 hA32 ⊢
  have hA32 : At w29 (Ks ra) (ra ++ [(b30, [(LV.sl z0).toV])]) w32 := hA32
  refine go_merge_Merge_All_api_Record _ _ _ ?_
  unfold S_merge_Merge_All_api_Record
  refine hA32.alK fun bm w34 _ hA34 _ => ?_
  let M (a : Sl) : List (Nat × List Value) := [(b30, [(LV.sl a).toV]), (bm, [(LV.ptr (some (y.b, 0))).toV])]
  have hA34 : At w29 (Ks ra) (M z0 ++ ra) w34 := hA34.perm (by
    rw [List.append_assoc]
    exact List.perm_append_comm (l₁ := M z0) (l₂ := ra))
  have hm34 := hm29.law hA34
  have hfin : ∀ {u : World}, Mod F w24 u → Mod (fun _ => False) w u := fun hM => Mod.fresh hA24.mod hM fun x hx hF => by have := hFge x hF; omega
  refine range_all (X0 := []) (G := fun ro c rest => ∃ (a : Sl) (l : List Thing) (ra : List (Nat × List Value)), ro = M a ++ ra ∧ VecE ra ET a l ∧ l ++ rest = OUT ∧ c = l.length) (Stop := fun _ _ _ _ => False) (tot := remQ f.L f.n) (Fin := fun _ => True) (err := ERR) hS hof hcv' (by omega) (by simp)
    (fun ro c rest hG => by obtain ⟨a, l, ra, rfl, _⟩ := hG; simp [M]) ⟨hm34, ht0, by simp⟩ ⟨z0, [], ra, rfl, hv29, rfl, rfl⟩ ?_ ?_ ?_
  · intro l p t F' ro c x rest w' beg next leave Xr Xb hm hov hT hG hXr hXrk hbeg hXbk hnext hleave
    obtain ⟨a, ls, ra, rfl, hv, hlr, rfl⟩ := hG
    have hlsl : ls.length < OUT.length := by rw [← hlr]; simp
    refine hm.rest.alK fun b46 w47 _ hA47 _ => ?_
    refine At.last hA47 (Nat.le_refl 3) fun w48 hA48 => ?_
    have hA48 : At w' (Ks (M a ++ ra)) ((M a ++ ra) ++ [(b46, recC x)]) w48 := hA48
    have hm48 := hm.law hA48
    refine hbeg _ _ _ hm48 (hXrk _ _ _ hm hA48.mod hXr) fun w49 hm49 hXb49 => ?_
    refine hm49.rest.ld 0 (k := .sl) a rfl rfl ?_
    refine hm49.rest.ldLast (k := .int .i64) x.1 rfl (hm49.rest.ldLast (k := .str) x.2.1 rfl (hm49.rest.ldLast (k := .str) x.2.2 rfl ?_))
    refine hm49.rest.alK fun b54 w55 _ hA55 _ => ?_
    have hA55' : At w49 (Ks ((M a ++ ra) ++ [(b46, recC x)])) ((M a ++ [(b46, recC x)] ++ [(b54, recC x)]) ++ ra) w55 :=
      hA55.perm ((List.Perm.append_right [(b54, recC x)] (perm_tail3 (M a) ra [(b46, recC x)])).trans (perm_tail3 _ _ _)).symm
    have hx55 : RdS w55 ET ⟨some (b54, 0), 1, 1⟩ [x] := rd_one (hA55'.own (b54, recC x) (by simp))
    refine hA55'.app hv hx55 rfl rfl (by simp; omega) fun a56 ra' w57 hA57 hv57 _ => ?_
    refine hA57.st 0 rfl (Nat.le_refl 1) fun w58 hA58 _ => ?_
    have hA58 : At w49 (Ks ((M a ++ ra) ++ [(b46, recC x)])) ((M a56 ++ [(b46, recC x)] ++ [(b54, recC x)]) ++ ra') w58 := hA58
    have hA58' := hA58.sub (m' := M a56 ++ ra') (List.Sublist.append_right ((List.sublist_append_left _ _).trans (List.sublist_append_left _ _)) _)
    exact hnext _ _ (hm49.law hA58') (hXbk _ _ _ hm49 hA58'.mod hXb49) ⟨a56, ls ++ [x], ra', rfl, hv57, by rw [← hlr]; simp, by simp⟩
  · intro p t F' ro c u hgo hov hG
    obtain ⟨a, ls, ra, rfl, hv, hlr, rfl⟩ := hG
    rw [List.append_nil] at hlr
    subst hlr
    have hmk : u.heap[w34.heap.size]? = some Mk := (hgo.far (w34.heap.size, Mk) (by simp)).1
    have hMu := hfin hgo.mf.at0
    have hw34 : w.heap.size ≤ w34.heap.size := (hfin hm34.at0).size
    refine err_ok hgo.mf ?_
    rw [tell_over hgo.tell hov]
    obtain ⟨q1, q2⟩ := runM_recs Ls
    have hclose : ∀ {K : World → Prop}, (∀ w', Mod (fun b => b = w34.heap.size) u w' → K w') → closeK [w34.heap.size] u K := fun hK => close_ok [w34.heap.size] (by simpa using hmk) (by simp) fun w' hM => hK w' (hM.mono fun b _ hb => by simpa using hb)
    cases ha : Ls.all adj with
    | false =>
      have he := q2 ha
      rw [hERR] at he
      subst he
      refine ifK_t rfl (hclose fun w63 M63 => ?_)
      have hr : recs Ls = ([], 61) := by unfold recs; rw [if_neg hbig, if_neg (by rw [ha]; decide)]
      have := hK ⟨none, 0, 0⟩ w63; rw [hr] at this
      exact this (Vec.nil _ _) hbknil (Mod.fresh hMu M63 fun x hx e => by omega)
    | true =>
      have he := q1 ha
      rw [he] at hOUT hERR
      simp only at hOUT hERR
      subst hERR
      refine ifK_f rfl ?_
      have hro := hgo.mf.rest
      refine hro.ld 0 (k := .sl) a rfl rfl (hclose fun w65 M65 => ?_)
      have hr : recs Ls = (srtA [] Ls.flatten, 0) := by unfold recs; rw [if_neg hbig, if_pos ha]
      have hvu : Vec u ET a ls := VecE.of_at hro hv
      have hbk : ∀ b, bk a b → b ≠ w34.heap.size ∧ w.heap.size ≤ b := fun b hb => by
        obtain ⟨q, hq, e⟩ := hv.key hb
        have hq' : q ∈ M a ++ ra := List.mem_append_right _ hq
        have hbl := hro.own q hq'
        refine ⟨fun e' => ?_, ?_⟩
        · rw [e, e'] at hbl
          exact far_cell hmk rfl hbl
        · rw [← e]
          refine Nat.not_lt.1 fun hlt => ?_
          obtain ⟨lo, rl, h1, _⟩ := hgo.mf.ex
          have hq2 : q ∈ ({ y with lo := lo } : Ly).m p.1 (rl ++ (M a ++ ra)) := by simp only [Ly.m, List.mem_cons, List.mem_append]; exact .inr (.inr (.inr (.inr (.inr (List.mem_append.1 hq')))))
          have := h1.at_.wr q hq2 (Nat.lt_of_lt_of_le hlt hA24.mod.size)
          have := hFge _ this
          omega
      have := hK a w65; rw [hr] at this
      rw [hOUT] at this
      exact this (hvu.keep M65 fun b hb e => (hbk b hb).1 e) (fun b hb => (hbk b hb).2) (Mod.fresh hMu M65 fun x hx e => by omega)
  · intro j p t F ro c rest u _ _ hst
    exact hst.elim
end Go.Proofs.Ytfhojgammfkabaa.Rc
