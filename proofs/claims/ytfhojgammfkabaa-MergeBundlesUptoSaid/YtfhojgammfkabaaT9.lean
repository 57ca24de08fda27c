/- MergeBundles, walked. -/
import Derived.Test.YtfhojgammfkabaaT8
namespace Go.Proofs.Ytfhojgammfkabaa
open Go.Vw

/-- the bundles as they are made -/
def stB (bs : List Bun) (j : Nat) : BS := ((s0 ((bs[j]?.map fun b => b.f.n).getD 0), []), fun _ => zFS)
theorem stB_lt {bs : List Bun} {b : Bun} {j : Nat} (h : j < bs.length) : stB (bs ++ [b]) j = stB bs j := by unfold stB; rw [List.getElem?_append_left h]
theorem stB_eq {bs : List Bun} {b : Bun} : stB (bs ++ [b]) bs.length = ((s0 b.f.n, []), fun _ => zFS) := by unfold stB; simp
structure BunsI (Ts : List (List Thing)) (n base at_ : Nat) (bs : List Bun) (Ls : List (List Thing)) (F : Nat → Prop) (w : World) : Prop where
  I : BunI bs base (stB bs) F w
  ok : ∀ b ∈ bs, BunOk base b
  len : Ls.length = bs.length
  tell : ∀ (j : Nat) b, bs[j]? = some b → b.T (stB bs j) 0 (LQ Ls j) 0
  outs : Outs Ts n at_ Ls
theorem bundles_walk {w : World} {fr : Sl} {ys : List (Sl × Int)} {Ls0 : List (List Thing)} (hf : RdS w ES fr ys) (hlen : Ls0.length = ys.length) (hLs : ∀ (i : Nat) y L, ys[i]? = some y → Ls0[i]? = some L → RdS w ET y.1 L) (hb : lens Ls0 Ls0.length ≤ 1048000) (hb2 : ys.length ≤ 1048576)
    {tk : Sl} {ks : List Int} (hk : RdS w EI tk ks) (hkl : ks.length ≤ 1048576)
    {K : Bool → World → Prop} (hK : ∀ w', Mod (fun _ => False) w w' → K true w') : callK Try.prog 8 [.leaf (.sl fr), .leaf (.sl tk)] w (.one (.leaf .bool)) K := by
  refine go_winnowlaw11_MergeBundles _ _ _ _ ?_
  unfold S_winnowlaw11_MergeBundles
  refine (At.init w fun _ => False).alK fun b3 w4 hb3 hA4 M4 => ?_
  have hA4 : At w (fun _ => False) [(b3, [.bool false])] w4 := hA4
  refine tidied_ok (hf.keep M4 fun _ _ => id) hlen (fun i y L h1 h2 => (hLs i y L h1 h2).keep M4 fun _ _ => id) hb hb2 fun a5 w6 zs Ts hT6 M6 => ?_
  have hal : a5.len = zs.length := hT6.src.rd.len
  have hz64 := hT6.n
  have hrem := hT6.rem
  have hM6 : Mod (fun _ => False) w w6 := mod0 M4 M6
  have hb36 : Blk w6 b3 [.bool false] := M6.blk (hA4.blk (i := 0) rfl) id
  have hb3lt := hb36.lt
  refine (At.init w6 fun _ => False).alK fun b7 w8 _ hA8 _ => ?_
  refine At.last hA8 (Nat.le_refl 1) fun w9 hA9 => ?_
  have hA9 : At w6 (fun _ => False) [(b7, [.int .i64 (remQ (LQ Ts) 0 : Nat)])] w9 := hA9
  have hremm : ∀ i, i ≤ zs.length → remQ (LQ Ts) i ≤ 1048000 := fun i hi => by
    have hm : ∀ k, remQ (LQ Ts) i ≤ remQ (LQ Ts) (i + k) := fun k => by
      induction k with
      | zero => exact Nat.le_refl _
      | succ k ih => rw [← Nat.add_assoc, remQ]; omega
    have := hm (zs.length - i)
    rw [show i + (zs.length - i) = zs.length by omega] at this
    omega
  have hzi : ∀ i, i < zs.length → ∃ z, zs[i]? = some z := fun i hi => ⟨_, List.getElem?_eq_getElem hi⟩
  have hTi : ∀ i, i < zs.length → Ts[i]? = some (LQ Ts i) := fun i hi => by unfold LQ; rw [List.getElem?_eq_getElem (by rw [hT6.src.len]; exact hi)]; rfl
  -- how many things there are
  refine join0 (fun w' => At w6 (fun _ => False) [(b7, [.int .i64 (remQ (LQ Ts) zs.length : Nat)])] w') (fun k hk1 => ?_) ?_
  · refine loop1 (k := .int .i64) (fun x w' => ∃ i : Nat, x = i ∧ i ≤ zs.length ∧ At w6 (fun _ => False) [(b7, [.int .i64 (remQ (LQ Ts) i : Nat)])] w') (fun x _ => zs.length - x.toNat) rfl ⟨0, rfl, Nat.zero_le _, hA9⟩ ?_
    rintro x w13 ⟨i, rfl, hi, hA⟩
    refine ifK_intro (fun hlt => ?_) (fun hlt => ?_)
    · have hlt' : i < zs.length := by rw [hal] at hlt; simpa using hlt
      refine ⟨fun _ => False, ?_⟩
      have hA14 := hA.drew
      have hT := hT6.keep hA14.mod
      refine hA14.ldD 0 (k := .int .i64) ((remQ (LQ Ts) i : Nat) : Int) rfl rfl id ?_
      obtain ⟨z, hz⟩ := hzi i hlt'
      refine hT.src.rd.ix rfl rfl hz fun b o _ hc => ldD_cell (k := .sl) z.1 id (hc 0 (by decide)) ?_
      have h1 := (hT.src.each i _ _ hz (hTi i hlt')).1.len
      have h2 := hremm (i + 1) hlt'
      rw [remQ] at h2
      have e1 : w64 (((remQ (LQ Ts) i : Nat) : Int) + (z.1.len : Int)) = ((remQ (LQ Ts) (i + 1) : Nat) : Int) := by rw [h1, w64_in (by omega) (by omega), remQ]; omega
      rw [e1]
      refine hA14.st 0 rfl (Nat.le_refl 1) fun w19 hA19 _ => ?_
      rw [set_step (by omega)]
      exact ⟨⟨i + 1, rfl, hlt', hA19⟩, by simp; omega⟩
    · have hge : i = zs.length := by rw [hal] at hlt; simp at hlt; omega
      subst hge
      exact hk1 _ hA
  intro w20 hA20
  have hsrt := hT6.sorted
  generalize hN : zs.length = N at *
  generalize hbase : w20.heap.size = base
  have h7lt : b7 < base := by rw [← hbase]; exact (hA20.blk (i := 0) rfl).lt
  have h6base : w6.heap.size ≤ base := by rw [← hbase]; exact hA20.mod.size
  let M7 : List (Nat × List Value) := [(b7, [.int .i64 (remQ (LQ Ts) N : Nat)])]
  have hA20 : At w6 (fun _ => False) M7 w20 := hA20
  -- the bundles
  refine join1 (a := .sl) (fun mg w' => ∃ bs Ls F ro, BunsI Ts N base N bs Ls F w' ∧ bs.length ≤ 64 ∧ At w6 (fun _ => False) (M7 ++ ro) w' ∧ VecE ro EF mg (bs.map fun b => nextB b.xb) ∧ (∀ x, F x → ¬ Ks (M7 ++ ro) x) ∧ ∀ x, Ks ro x → base ≤ x) (fun k hk1 => ?_) ?_
  · refine loop4 (k1 := .sl) (k2 := .sl) (k3 := .int .i64) (k4 := .int .i64) (fun cu mg at_ x w' => ∃ (a : Nat) (kc : List Int) (bs : List Bun) (Ls : List (List Thing)) (F : Nat → Prop) (ro : List (Nat × List Value)), at_ = (a : Nat) ∧ x = (bs.length : Nat) ∧ a ≤ N ∧ RdS w6 EI cu kc ∧ kc.length ≤ 1048576 ∧ (a < N → bs.length ≤ 63) ∧ bs.length ≤ 64 ∧ (bs.length = 63 → kc = []) ∧ BunsI Ts N base a bs Ls F w' ∧
        At w6 (fun _ => False) (M7 ++ ro) w' ∧ VecE ro EF mg (bs.map fun b => nextB b.xb) ∧ (∀ x, F x → ¬ Ks (M7 ++ ro) x) ∧ ∀ x, Ks ro x → base ≤ x)
      (fun (cu : Sl) _ (at_ : Int) (x : Int) _ => if at_ < (N : Int) then 1 + ((cu.len : Int) - x).toNat else 0) rfl rfl rfl rfl
      ⟨0, ks, [], [], fun _ => False, [], rfl, rfl, Nat.zero_le _, hk.keep hM6 fun _ _ => id, hkl, fun _ => by simp, by simp, fun h => by simp at h,
        ⟨⟨Nat.le_of_eq hbase.symm, fun _ _ => False, fun x => ⟨fun h => h.elim, fun ⟨_, _, h⟩ => h⟩, fun j b h => by simp at h, fun i j h => by simp at h, fun j h => by simp at h⟩, by simp, rfl, fun j b h => by simp at h, ⟨fun i h => by simp at h, fun i j _ h => by simp at h, by simp [cat]⟩⟩,
        by rw [List.append_nil]; exact hA20, VecE.nil _, fun _ h => h.elim, fun x ⟨q, hq, _⟩ => by cases hq⟩ ?_
    rintro cu mg at_ x w27 ⟨a, kc, bs, Ls, F, ro, rfl, rfl, haN, hcu6, hcul, hB63, hB64, hB63c, hbun, hA, hv, hFd, hrob⟩
    refine ifK_intro (fun hlt => ?_) (fun hlt => ?_)
    rotate_left
    · have : a = N := by rw [hal] at hlt; have : ¬ ((a : Nat) : Int) < (N : Nat) := by simpa using hlt
                         omega
      subst this
      exact hk1 _ _ ⟨bs, Ls, F, ro, hbun, hB64, hA, hv, hFd, hrob⟩
    have hlt' : a < N := by rw [hal] at hlt; have : ((a : Nat) : Int) < (N : Nat) := by simpa using hlt
                            omega
    have hB := hB63 hlt'
    have hcu := hcu6.keep hA.mod fun _ _ => id
    -- where the bundle ends
    refine join1 (a := .bool) (fun b w' => w' = w27 ∧ b = decide (∃ q, kc[bs.length]? = some q ∧ 0 ≤ q ∧ q < (N : Int) - a)) (fun k2 hk2 => ?_) ?_
    · rw [hcu.len, hal]
      refine ifK_intro (fun h1 => ?_) (fun h1 => hk2 _ _ ⟨rfl, ?_⟩)
      · have h1 : bs.length < kc.length := by simpa using h1
        have hq := List.getElem?_eq_getElem h1
        refine hcu.ix rfl rfl hq fun b o _ hc => ld_cell (k := .int .i64) kc[bs.length] (hc 0 (by decide)) (ifK_intro (fun h2 => ?_) (fun h2 => hk2 _ _ ⟨rfl, ?_⟩))
        · have h2 : 0 ≤ kc[bs.length] := by simpa using h2
          refine hcu.ix rfl rfl hq fun b o _ hc => ld_cell (k := .int .i64) kc[bs.length] (hc 0 (by decide)) (hk2 _ _ ⟨rfl, ?_⟩)
          rw [w64_in (by omega) (by omega)]
          refine decide_eq_decide.2 ⟨fun h => ⟨_, hq, h2, h⟩, fun ⟨q, e1, _, e3⟩ => ?_⟩
          rw [hq] at e1; cases e1; exact e3
        · have h2 : ¬ 0 ≤ kc[bs.length] := by simpa using h2
          refine (decide_eq_false ?_).symm
          rintro ⟨q, e1, e2, _⟩
          rw [hq] at e1; cases e1; exact h2 e2
      · have h1 : ¬ bs.length < kc.length := by simpa using h1
        refine (decide_eq_false ?_).symm
        rintro ⟨q, e1, _, _⟩
        rw [List.getElem?_eq_none (by omega)] at e1; cases e1
    rintro _ w36 ⟨hw36, rfl⟩
    rw [hw36]
    refine join1 (a := .int .i64) (fun x w' => w' = w27 ∧ ∃ e : Nat, x = (e : Nat) ∧ a ≤ e ∧ e ≤ N ∧ (e < N → bs.length < kc.length)) (fun k2 hk2 => ?_) ?_
    · refine ifK_intro (fun h1 => ?_) (fun h1 => hk2 _ _ ⟨rfl, N, by rw [hal], haN, Nat.le_refl _, fun h => absurd h (Nat.lt_irrefl _)⟩)
      obtain ⟨q, e1, e2, e3⟩ : ∃ q, kc[bs.length]? = some q ∧ 0 ≤ q ∧ q < (N : Int) - a := of_decide_eq_true h1
      refine hcu.ix rfl rfl e1 fun b o _ hc => ld_cell (k := .int .i64) q (hc 0 (by decide)) (hk2 _ _ ⟨rfl, (a + q).toNat, ?_⟩)
      have e9 : w64 (((a : Nat) : Int) + q) = ((((a : Nat) : Int) + q).toNat : Nat) := by rw [w64_in (by omega) (by omega)]; omega
      exact ⟨e9, by omega, by omega, fun _ => (List.getElem?_eq_some_iff.1 e1).1⟩
    rintro _ w42 ⟨hw42, e, rfl, hae, heN, hec⟩
    rw [hw42]
    have hT27 := hT6.keep hA.mod
    refine hT27.src.rd.slxPart (E := ES) hae (by rw [hN]; exact heN) ?_
    generalize hsp : a5.cut ES.n a e a5.cap = s43
    have hr43 : RdS w27 ES s43 (subL zs a e) := by rw [← hsp]; exact hT27.src.rd.part hae (by rw [hN]; exact heN)
    have hsl : (subL zs a e).length = e - a := subL_length (by rw [hN]; exact heN)
    have hTsl : (subL Ts a e).length = e - a := subL_length (by rw [hT6.src.len, hN]; exact heN)
    have hsub : ∀ (i : Nat) x L, (subL zs a e)[i]? = some x → (subL Ts a e)[i]? = some L → ∃ i', zs[i']? = some x ∧ Ts[i']? = some L := fun i x L h1 h2 => by
      have hi : i < e - a := by rw [← hsl]; exact (List.getElem?_eq_some_iff.1 h1).1
      rw [subL_get hi] at h1 h2
      exact ⟨_, h1, h2⟩
    have hsrm := sub_rem (Ts := Ts) (lo := a) (hi := e) (n := N) hae heN
    refine feeds_f hr43 (subL Ts a e) (by rw [hTsl, hsl]) (fun i x l h1 h2 => by obtain ⟨i', g1, g2⟩ := hsub i x l h1 h2; exact (hT27.src.each i' x l g1 g2).1) (by omega) (fun L hL => ?_) base (by have := hbun.I.hbase; exact this) (fun x hx b hb => ?_) fun a44 w45 fbs hok hI hv44 hbk hge M45 => ?_
    · obtain ⟨i, hi⟩ := List.mem_iff_getElem?.1 hL
      have hi' : i < e - a := by rw [← hTsl]; exact (List.getElem?_eq_some_iff.1 hi).1
      have e1 : LQ (subL Ts a e) i = L := by unfold LQ; rw [hi]; rfl
      have hm : ∀ m, i < m → (LQ (subL Ts a e) i).length ≤ remQ (LQ (subL Ts a e)) m := by
        intro m
        induction m with
        | zero => intro h; omega
        | succ m ih =>
          intro hm
          rw [remQ]
          by_cases e : i = m
          · subst e; omega
          · have := ih (by omega); omega
      have := hm _ hi'
      rw [e1] at this; omega
    · obtain ⟨i, hi⟩ := List.mem_iff_getElem?.1 hx
      have hi' : i < e - a := by rw [← hsl]; exact (List.getElem?_eq_some_iff.1 hi).1
      obtain ⟨i', g1, g2⟩ := hsub i x _ hi (List.getElem?_eq_getElem (by rw [hTsl]; exact hi'))
      have := (hT6.src.each i' x _ g1 g2).2 b hb
      omega
    generalize hfe : mkF (subL zs a e) (subL Ts a e) fbs base = f at *
    have hfn : f.n = e - a := by rw [← hfe]; exact hsl
    have hfen : f.en = fun _ => 0 := by
      rw [← hfe]
      funext i
      show ((subL zs a e)[i]?.map (·.2)).getD 0 = 0
      cases hz : (subL zs a e)[i]? with
      | none => rfl
      | some z =>
        have hi' : i < e - a := by rw [← hsl]; exact (List.getElem?_eq_some_iff.1 hz).1
        rw [subL_get hi'] at hz
        exact hT6.zero z (List.mem_of_getElem? hz)
    have hfL : f.L = LQ (subL Ts a e) := by rw [← hfe]; rfl
    have hfbase : f.base = base := by rw [← hfe]; rfl
    rw [hsl] at hI hv44 hbk hge
    have hr45 : RdS w45 EP a44 ((List.range f.n).map fun i => some (f.fb i, 0)) := by rw [hfn]; exact hv44.rd
    refine made_ok hr45 (by simp [hfn]; omega) fun w48 y hAy hy => ?_
    obtain ⟨hof, hmf, hrel⟩ := start_of hok hI (by rw [hfbase]; exact Nat.le_trans hbun.I.hbase M45.size) rfl hAy hy
    have M48 : Mod (fun _ => False) w45 w48 := hAy.mod
    have hyn : y.n = e - a := by rw [← hof.n]; exact hfn
    refine join1 (a := .bool) (fun b w' => b = false ∧ w' = w48) (fun k2 hk2 => ifK_f rfl (hk2 _ _ ⟨rfl, rfl⟩)) ?_
    rintro _ w51 ⟨rfl, hw51⟩
    rw [hw51]
    refine ifK_f rfl ?_
    refine hmf.rest.alK fun b54 w55 _ hA55 M55 => ⟨fun x hx => by simp at hx; subst hx; rfl, ?_⟩
    have hA55 : At w48 (Ks []) [(b54, [(LV.ptr (some (y.b, 0))).toV])] w55 := hA55
    have hm55 := hmf.law hA55
    refine hm55.rest.alK fun b56 w57 _ hA57 M57 => ?_
    have hA57 : At w55 (Ks [(b54, [(LV.ptr (some (y.b, 0))).toV])]) ([(b54, [(LV.ptr (some (y.b, 0))).toV])] ++ [(b56, [nextB b54])]) w57 := hA57
    have hb56 : Blk w57 b56 (EF.f (nextB b54)) := by rw [EF_f (nextB_fn _)]; exact hA57.own (b56, [nextB b54]) (by simp)
    have hm57 := (hm55.law hA57).drop (List.sublist_append_left [(b54, [(LV.ptr (some (y.b, 0))).toV])] _)
    obtain ⟨D', hmD, d1, _⟩ := hm57.reb
    let bn : Bun := ⟨f, hok, y, b54⟩
    have hMa : Mod (fun _ => False) w27 w57 := mod0 (mod0 (mod0 M45 M48) M55) M57
    have hsz : w27.heap.size ≤ w57.heap.size := hMa.size
    have hD27 : ∀ x, D' x → w27.heap.size ≤ x := fun x hx => by
      rcases Nat.lt_or_ge x w45.heap.size with h9 | h9
      · obtain ⟨i, hi, e9⟩ := (d1 x hx).2 h9
        have := hge i hi
        omega
      · exact Nat.le_trans M45.size h9
    have hKlt : ∀ x, Ks (M7 ++ ro) x → x < w27.heap.size := by rintro x ⟨q, hq, rfl⟩; exact At.lt hA q hq
    have hA57' := hA.keep0 hMa fun _ => id
    have hx57 : RdS w57 EF ⟨some (b56, 0), 1, 1⟩ [nextB b54] := rd_one hb56
    have hA57b : At w57 (Ks (M7 ++ ro)) (M7 ++ ro) w57 := hA57'.from fun q hq => ⟨q, hq, rfl⟩
    refine hA57b.app hv hx57 rfl rfl (by simp; omega) fun mg' ro' w59 hA59b hv59 M59 => ?_
    have hA59 : At w6 (fun _ => False) (M7 ++ ro') w59 := by
      refine ⟨hA57'.mod.trans hA59b.mod (fun _ _ h => h) fun x hx hk => ?_, hA59b.own, hA59b.nodup, fun q hq hlt => ?_⟩
      · obtain ⟨q, hq, rfl⟩ := hk; exact hA57'.wr q hq hx
      · obtain ⟨q', hq', e'⟩ := hA59b.wr q hq (Nat.lt_of_lt_of_le hlt hA57'.mod.size)
        rw [← e'] at hlt; exact hA57'.wr q' hq' hlt
    have hFlt : ∀ x, F x → x < w27.heap.size := fun x hx => by
      obtain ⟨Ds, g1, g2, g3, g4⟩ := hbun.I.ex
      obtain ⟨j, hj, hx⟩ := (g1 x).1 hx
      exact (g4 j hj x hx).2
    have hKs' : ∀ x, x < w57.heap.size → Ks (M7 ++ ro') x → Ks (M7 ++ ro) x := by rintro x hx ⟨q, hq, rfl⟩; exact hA59b.wr q hq hx
    have hKro : ∀ x, Ks ro x → Ks (M7 ++ ro) x := fun x ⟨q, hq, e'⟩ => ⟨q, List.mem_append_right _ hq, e'⟩
    have hbok : BunOk base bn := ⟨hof, by show CmpOk y.cv cmpT; rw [hy.cv]; exact compare_ok, by show y.n ≤ 64; omega, Nat.le_of_eq hfbase⟩
    have htell : bn.T ((s0 bn.f.n, []), fun _ => zFS) 0 (runM (e - a) (fun _ => 0) (LQ (subL Ts a e))).1 0 := by
      refine .start rfl rfl rfl rfl hrel ?_ rfl fun _ _ => trivial
      show runM f.n f.en f.L = _
      rw [hfn, hfen, hfL]
      have := (runM_sorted (sub_sorted (Ts := Ts) (lo := a) (hi := e) (n := N) hsrt heN)).1
      exact Prod.ext rfl this
    have hBat : BunAt bn ((s0 bn.f.n, []), fun _ => zFS) D' w57 := ⟨⟨_, hmD⟩, ⟨_, _, _, htell⟩⟩
    have hKsro : ∀ x, Ks ro x → x < base → False := fun x hx hlt => by have := hrob x hx; omega
    have hI59 := (bunS bs base hbun.ok).keep _ _ _ _ _ ((bunS bs base hbun.ok).keep _ _ _ _ _ hbun.I hMa (fun _ _ => id) (fun _ _ => id)) M59 (fun x hx hk => hFd x hx (hKro x hk)) (fun x hx hk => hKsro x hk hx)
    have hI59 : BunI bs base (stB bs) F w59 := hI59
    have hbat59 := hBat.keep hbok M59 (fun x _ hx hk => by have := hD27 x hx; have := hKlt x (hKro x hk); omega) (fun x hx hk => hKsro x hk hx)
    have hlenj : ∀ (j : Nat) b, bs[j]? = some b → j < bs.length := fun j b hj => (List.getElem?_eq_some_iff.1 hj).1
    have hbun' : BunsI Ts N base e (bs ++ [bn]) (Ls ++ [(runM (e - a) (fun _ => 0) (LQ (subL Ts a e))).1]) (fun x => F x ∨ D' x) w59 := by
      obtain ⟨Ds, g1, g2, g3, g4⟩ := hI59.ex
      obtain ⟨Ds0, e1, e2, e3, e4⟩ := hbun.I.ex
      have hgF : ∀ j, j < bs.length → ∀ x, Ds j x → x < w27.heap.size := fun j hj x hx => hFlt x ((g1 x).2 ⟨j, hj, hx⟩)
      refine ⟨⟨hI59.hbase, upd Ds bs.length D', fun x => ?_, fun j b hj => ?_, fun i j hi hj hne x hx => ?_, fun j hj x hx => ?_⟩, ?_, by simp [hbun.len], fun j b hj => ?_, ?_⟩
      · constructor
        · rintro (hx | hx)
          · obtain ⟨j, hj, hx⟩ := (g1 x).1 hx
            exact ⟨j, by simp; omega, by rw [upd_ne _ _ (by omega)]; exact hx⟩
          · exact ⟨bs.length, by simp, by rw [upd_same]; exact hx⟩
        · rintro ⟨j, hj, hx⟩
          by_cases e9 : j = bs.length
          · subst e9; rw [upd_same] at hx; exact .inr hx
          · rw [upd_ne _ _ e9] at hx
            exact .inl ((g1 x).2 ⟨j, by simp at hj; omega, hx⟩)
      · by_cases e9 : j = bs.length
        · subst e9
          rw [List.getElem?_append_right (Nat.le_refl _)] at hj
          simp at hj; subst hj
          rw [upd_same, stB_eq]; exact hbat59
        · have hj' : j < bs.length := by have := (List.getElem?_eq_some_iff.1 hj).1; simp at this; omega
          rw [List.getElem?_append_left hj'] at hj
          rw [upd_ne _ _ e9, stB_lt hj']; exact g2 j b hj
      · simp at hi hj
        by_cases e9 : i = bs.length
        · subst e9
          rw [upd_same] at hx
          rw [upd_ne _ _ (fun h => hne h.symm)]
          intro hx2
          have := hgF j (by omega) x hx2; have := hD27 x hx; omega
        · rw [upd_ne _ _ e9] at hx
          by_cases e8 : j = bs.length
          · subst e8
            rw [upd_same]
            intro hx2
            have := hgF i (by omega) x hx; have := hD27 x hx2; omega
          · rw [upd_ne _ _ e8]; exact g3 i j (by omega) (by omega) hne x hx
      · by_cases e9 : j = bs.length
        · subst e9
          rw [upd_same] at hx
          exact ⟨Nat.le_trans hbun.I.hbase (hD27 x hx), Nat.lt_of_lt_of_le (d1 x hx).1 M59.size⟩
        · rw [upd_ne _ _ e9] at hx
          exact g4 j (by simp at hj; omega) x hx
      · intro b hb
        rcases List.mem_append.1 hb with hb | hb
        · exact hbun.ok b hb
        · simp at hb; subst hb; exact hbok
      · by_cases e9 : j = bs.length
        · subst e9
          rw [List.getElem?_append_right (Nat.le_refl _)] at hj
          simp at hj; subst hj
          rw [stB_eq, ← hbun.len, LQ_app_eq]; exact htell
        · have hj' : j < bs.length := by have := (List.getElem?_eq_some_iff.1 hj).1; simp at this; omega
          rw [List.getElem?_append_left hj'] at hj
          rw [stB_lt hj', LQ_app_lt (by rw [hbun.len]; exact hj')]; exact hbun.tell j b hj
      · exact hbun.outs.next hsrt hae heN
    have hmlen : mg'.len = bs.length + 1 := by rw [hv59.1]; simp
    refine join1 (a := .sl) (fun cu' w' => w' = w59 ∧ ∃ kc', RdS w6 EI cu' kc' ∧ kc'.length ≤ kc.length ∧ (bs.length + 1 = 63 → kc' = [])) (fun k2 hk2 => ?_) ?_
    · rw [hmlen]
      refine ifK_intro (fun h1 => hk2 _ _ ⟨rfl, [], ⟨rfl, .inl rfl, Nat.le_refl _⟩, Nat.zero_le _, fun _ => rfl⟩) (fun h1 => hk2 _ _ ⟨rfl, kc, hcu6, Nat.le_refl _, fun h9 => ?_⟩)
      rw [h9] at h1; simp at h1
    rintro cu' w62 ⟨hw62, kc', hcu', hkl', hk63⟩
    rw [hw62, set_step (by omega)]
    refine ⟨⟨e, kc', bs ++ [bn], _, _, ro', rfl, by simp, heN, hcu', by omega, fun h => ?_, by simp; omega, fun h => hk63 (by simpa using h), hbun', hA59, by simpa [bn] using hv59, ?_, ?_⟩, ?_⟩
    · have h1 := hec h
      simp only [List.length_append, List.length_singleton]
      rcases Nat.lt_or_ge bs.length 63 with h2 | h2
      · omega
      · have := hB63c (by omega)
        rw [this] at h1; simp at h1
    · rintro x (hx | hx) hk
      · have hlt27 := hFlt x hx
        exact hFd x hx (hKs' x (by omega) hk)
      · have h1 := (d1 x hx).1
        have := hKlt x (hKs' x h1 hk)
        have := hD27 x hx
        omega
    · rintro x ⟨q, hq, rfl⟩
      rcases Nat.lt_or_ge q.1 w57.heap.size with h1 | h1
      · obtain ⟨q', hq', e'⟩ := hA59b.wr q (List.mem_append_right _ hq) h1
        rcases List.mem_append.1 hq' with hq' | hq'
        · have hnd := hA59b.nodup
          rw [List.map_append, List.nodup_append] at hnd
          exact absurd e' (hnd.2.2 _ (List.mem_map_of_mem hq') _ (List.mem_map_of_mem hq))
        · rw [← e']; exact hrob _ ⟨q', hq', rfl⟩
      · exact Nat.le_trans hbun.I.hbase (Nat.le_trans hsz h1)
    · have hcl := hcu.len
      have hcl' := hcu'.len
      have p1 : ((a : Nat) : Int) < (N : Nat) := by omega
      rw [if_pos p1]
      by_cases h1 : e < N
      · have p2 : ((e : Nat) : Int) < (N : Nat) := by omega
        rw [if_pos p2]
        have := hec h1
        omega
      · have p2 : ¬ ((e : Nat) : Int) < (N : Nat) := by omega
        rw [if_neg p2]; omega
  rintro mg w64 ⟨bs, Ls, F, ro, hbun, hB64, hA64, hv64, hFd, hrob⟩
  generalize hvs : bs.map (fun b => nextB b.xb) = vs at hv64
  have hvl : vs.length = bs.length := by rw [← hvs]; simp
  have hfn : ∀ v ∈ vs, isFn v := fun v hv => by rw [← hvs] at hv; obtain ⟨b, _, rfl⟩ := List.mem_map.1 hv; exact nextB_fn _
  refine new_ok cmpV_fn (VecE.of_at hA64 hv64).rd hfn (by omega) fun w67 y hAy hy => ?_
  generalize hSS : bunS bs base hbun.ok = S
  have hSn : S.n = bs.length := by rw [← hSS]; rfl
  have hSb : S.base = base := by rw [← hSS]; rfl
  have hSI : S.I (stB bs) F w64 := by rw [← hSS]; exact hbun.I
  have hSv : ∀ i, i < vs.length → vs[i]? = some (S.v i) := fun i hi => by
    rw [← hSS, ← hvs]
    show _ = some (nextB ((bs[i]?.map Bun.xb).getD 0))
    rw [List.getElem?_map, List.getElem?_eq_getElem (by omega)]; rfl
  have hS : Lists S (fun _ => 0) (bunSt bs) := by rw [← hSS]; exact bun_lists bs base hbun.ok
  obtain ⟨hof, hmf⟩ := start_gen hSI (by rw [hSb]; exact hbun.I.hbase) (by rw [hSn, hvl]) hSv hAy hy
  have hyn : y.n = bs.length := by rw [hy.n, hvl]
  have hcv : CmpOk y.cv cmpT := by rw [hy.cv]; exact compare_ok
  have hsorted : Sorted bs.length (LQ Ls) := ⟨fun i hi => hbun.outs.each i (by rw [hbun.len]; exact hi), fun i j hij hj => hbun.outs.rise i j hij (by rw [hbun.len]; exact hj)⟩
  obtain ⟨r1, r2, r3⟩ := runM_sorted hsorted
  have r4 := hbun.outs.perm
  rw [hbun.len] at r4
  have r5 := r3.trans r4
  generalize hOUT : (runM bs.length (fun _ => 0) (LQ Ls)).1 = OUT at r2 r3 r5
  have hOl : OUT.length = remQ (LQ Ts) N := by rw [r5.length_eq, cat_length]
  have hNr := hremm N (Nat.le_refl _)
  have ht0 : Tell S (fun _ => 0) (bunSt bs) (remQ (LQ Ls) S.n) (fun _ => True) (s0 vs.length, []) (stB bs) 0 OUT 0 := by
    refine .start rfl rfl rfl rfl (Q0 := LQ Ls) ⟨by rw [hSn, ← hvl]; simp [s0], by rw [hSn, ← hvl]; simp [s0], fun i => some (LQ Ls i), fun j b hj rest hr => ?_, fun i hi => by omega, fun i _ hi => ⟨rfl, rfl, ?_⟩⟩ ?_ rfl fun _ _ => trivial
    · cases hr; exact ⟨0, hbun.tell j b hj⟩
    · rw [hSn, ← hvl] at hi; simp [s0, getB, List.getElem?_replicate, hi]
    · rw [hSn]; exact Prod.ext hOUT r1
  have hFb : ∀ x, F x → base ≤ x := fun x hx => by
    obtain ⟨Ds, g1, g2, g3, g4⟩ := hbun.I.ex
    obtain ⟨j, hj, hx⟩ := (g1 x).1 hx
    exact (g4 j hj x hx).1
  have hM6u : ∀ {u : World}, Mod F w64 u → Mod (fun _ => False) w6 u := fun hM => Mod.fresh hA64.mod hM fun x hx hf => by have := hFb x hf; omega
  have hb7 : ∀ {u : World}, Mod F w64 u → Blk u b7 [.int .i64 (remQ (LQ Ts) N : Nat)] := fun hM => hM.blk (hA64.own (b7, _) (by simp [M7])) fun hf => by have := hFb b7 hf; omega
  refine join1 (a := .bool) (fun b w' => b = false ∧ w' = w67) (fun k hk1 => ifK_f rfl (hk1 _ _ ⟨rfl, rfl⟩)) ?_
  rintro _ w70 ⟨rfl, hw70⟩
  rw [hw70]
  refine ifK_f rfl ?_
  refine hmf.rest.alK fun b73 w74 _ hA74 _ => ?_
  have hA74 : At w67 (Ks []) [(b73, [(LV.sl ⟨none, 0, 0⟩).toV])] w74 := hA74
  have hm74 := hmf.law hA74
  refine go_merge_Merge_All_winnowref11_Thing _ _ _ ?_
  unfold S_merge_Merge_All_winnowref11_Thing
  refine hm74.rest.alK fun bm w76 _ hA76 _ => ?_
  let M2 (sl : Sl) : List (Nat × List Value) := [(b73, [(LV.sl sl).toV]), (bm, [(LV.ptr (some (y.b, 0))).toV])]
  have hA76 : At w74 (Ks [(b73, [(LV.sl ⟨none, 0, 0⟩).toV])]) (M2 ⟨none, 0, 0⟩) w76 := hA76
  have hm76 := hm74.law hA76
  refine .inr ⟨_, _, _, rfl, ifK_f rfl ?_⟩
  have hdrop : ∀ {c : Nat} (hc : c < OUT.length), OUT.drop c = OUT[c] :: OUT.drop (c + 1) := fun {c} hc => List.drop_eq_getElem_cons hc
  refine range_all (S := S) (X0 := []) (G := fun ro c rest => ∃ sl rl, ro = M2 sl ++ rl ∧ VecE rl ET sl (OUT.take c) ∧ rest = OUT.drop c ∧ c ≤ OUT.length) (Stop := fun _ _ _ _ => False) (tot := remQ (LQ Ls) S.n) (Fin := fun _ => True) (err := 0) (en := fun _ => 0) (St := bunSt bs) hS hof hcv (by omega) (by simp)
    (fun ro c rest hG => by obtain ⟨sl, rl, rfl, _⟩ := hG; simp [M2]) ⟨hm76, ht0, by simp⟩ ⟨⟨none, 0, 0⟩, [], by simp, VecE.nil _, rfl, Nat.zero_le _⟩ ?_ ?_ ?_
  · intro l p t F' c0 c x rest w' beg next leave Xr Xb hm hov hT hG hXr hXrk hbeg hXbk hnext hleave
    obtain ⟨sl, rl, rfl, hv, g3, g2⟩ := hG
    have g2 : c < OUT.length := by
      rcases Nat.lt_or_ge c OUT.length with h9 | h9
      · exact h9
      · rw [List.drop_eq_nil_of_le h9] at g3; cases g3
    rw [hdrop g2] at g3
    injection g3 with g3 g4
    subst g3; subst g4
    refine hm.rest.alK fun b90 w91 _ hA91 _ => ?_
    refine At.last hA91 (Nat.le_refl 2) fun w92 hA92 => ?_
    have hA92 : At w' (Ks (M2 sl ++ rl)) ((M2 sl ++ rl) ++ [(b90, ET.f OUT[c])]) w92 := hA92
    have hm92 := hm.law hA92
    refine hbeg _ _ _ hm92 (hXrk _ _ _ hm hA92.mod hXr) fun w93 hm93 hXb93 => ?_
    have hm93 := hm93.law (hm93.rest.perm (perm_tail3 _ _ _))
    have hr93 := hm93.rest
    have hr93 : At w93 (Ks ((M2 sl ++ [(b90, ET.f OUT[c])]) ++ rl)) ((M2 sl ++ [(b90, ET.f OUT[c])]) ++ rl) w93 := hr93
    refine hr93.ld 0 (k := .sl) sl rfl rfl (hr93.ld 2 (k := .int .i64) OUT[c].1 rfl rfl (hr93.ld 2 (k := .int .i64) OUT[c].2 rfl rfl ?_))
    refine hr93.alK fun b97 w98 _ hA98 _ => ?_
    have hA98 : At w93 (Ks ((M2 sl ++ [(b90, ET.f OUT[c])]) ++ rl)) (((M2 sl ++ [(b90, ET.f OUT[c])]) ++ [(b97, ET.f OUT[c])]) ++ rl) w98 := by
      have h1 : At w93 (Ks ((M2 sl ++ [(b90, ET.f OUT[c])]) ++ rl)) (((M2 sl ++ [(b90, ET.f OUT[c])]) ++ rl) ++ [(b97, ET.f OUT[c])]) w98 := hA98
      exact h1.perm (perm_tail3 _ _ _)
    have hx98 : RdS w98 ET ⟨some (b97, 0), 1, 1⟩ [OUT[c]] := rd_one (hA98.own (b97, ET.f OUT[c]) (by simp))
    refine hA98.app hv hx98 rfl rfl (by simp; omega) fun sl' rl' w100 hA100 hv100 _ => ?_
    refine hA100.st 0 rfl (Nat.le_refl 1) fun w101 hA101 _ => ?_
    have hA101 : At w93 (Ks ((M2 sl ++ [(b90, ET.f OUT[c])]) ++ rl)) (((M2 sl' ++ [(b90, ET.f OUT[c])]) ++ [(b97, ET.f OUT[c])]) ++ rl') w101 := hA101
    have hm101 := hm93.law (hA101.sub (m' := M2 sl' ++ rl') (List.Sublist.append_right ((List.sublist_append_left _ _).trans (List.sublist_append_left _ _)) _))
    have htk : OUT.take c ++ [OUT[c]] = OUT.take (c + 1) := by rw [List.take_add_one, List.getElem?_eq_getElem g2]; rfl
    rw [htk] at hv100
    have hsl : sl'.len = c + 1 := by rw [hv100.1, List.length_take]; omega
    refine hA101.ld 0 (k := .sl) sl' rfl rfl (ld_cell (k := .int .i64) ((remQ (LQ Ts) N : Nat) : Int) (((hb7 hm101.at0).cell 0).trans rfl) (ifK_f ?_ ?_))
    · rw [hsl]; simp; omega
    · exact hnext _ _ hm101 (hXbk _ _ _ hm93 hA101.mod hXb93) ⟨sl', rl', rfl, hv100, rfl, g2⟩
  · intro p t F' c0 c u hgo hov hG
    obtain ⟨sl, rl, rfl, hv, g3, g2⟩ := hG
    have hcl : c = OUT.length := by
      have := congrArg List.length g3
      simp at this; omega
    subst hcl
    rw [List.take_length] at hv
    have hMu : Mod F w64 u := hgo.mf.at0
    have hM6 := hM6u hMu
    have hTu := hT6.keep hM6
    have hbu : Blk u b3 [.bool false] := hM6.blk hb36 id
    have hrh := (hgo.far (w76.heap.size, Mk) (by simp)).1
    have hne : w76.heap.size ≠ b3 := by
      have h1 := hm76.at0.size; have := hA64.mod.size; omega
    have hrsl : RdS u ET sl OUT := (hv.vec fun q hq => hgo.mf.own q (List.mem_append_right _ hq)).rd
    refine join0 (fun w' => ∃ u', Mod (fun _ => False) u u' ∧ At u' (fun b => b = b3) [(b3, [.bool true])] w') (fun k hk1 => ?_) ?_
    · refine err_ok hgo.mf (ifK_t (by rw [(tell_over hgo.tell hov).1]; rfl) ?_)
      refine hgo.mf.rest.ld 0 (k := .sl) sl rfl rfl ?_
      refine stable_tidy hTu hrsl r2 (by rw [hN]; exact r5) fun w112 M112 => ifK_t rfl (head_ok fun w114 M114 => ?_)
      have hA2 : At w114 (fun b => b = b3) [(b3, [.bool false])] w114 := (At.init w114 _).add (M114.blk (M112.blk hbu id) id) (by simp) fun _ => rfl
      exact hA2.st 0 rfl (Nat.le_refl 1) fun w115 hA115 _ => hk1 _ ⟨w114, mod0 M112 M114, hA115⟩
    · rintro w118 ⟨u', hMu', hA118⟩
      refine close_ok _ (fun r hr => ?_) (by simp) fun w119 M119 => ?_
      · simp at hr; subst hr
        have h1 := (hMu'.block _ (heap_lt hrh) id).trans hrh
        exact (hA118.mod.block _ (heap_lt h1) hne).trans h1
      · have hbT : Blk w119 b3 [.bool true] := M119.blk (hA118.blk (i := 0) rfl) fun hm => by simp at hm; exact hne hm.symm
        refine ld_cell (k := .bool) true ((hbT.cell 0).trans rfl) (hK _ ?_)
        have e0 : Mod (fun _ => False) w u' := mod0 (mod0 (mod0 M4 M6) hM6) hMu'
        have e2 : Mod (fun _ => False) w w118 := Mod.fresh e0 hA118.mod fun x hx e => by subst e; omega
        refine Mod.fresh e2 M119 fun x hx hm => ?_
        simp at hm; subst hm
        have h1 := hm76.at0.size; have h2 := hA64.mod.size; have h3 := M4.size; have h4 := M6.size
        omega
  · intro j p t F' c0 c rest u _ _ hst
    exact hst.elim
end Go.Proofs.Ytfhojgammfkabaa
