/- MergeAll, walked. -/
import Derived.Test.YtfhojgammfkabaaT5
import Derived.Test.YtfhojgammfkabaaSAll
import Derived.Test.YtfhojgammfkabaaR5
namespace Go.Proofs.Ytfhojgammfkabaa
open Go.Vw

theorem okI_in {n : Int} (h : okI n) : -9223372036854775808 ≤ n ∧ n ≤ 9223372036854775807 := bounds_i64 h
/-- the marks of ranges are struck -/
theorem close_ok : ∀ (rs : List Nat) {w : World} {K : World → Prop}, (∀ r ∈ rs, w.heap[r]? = some Mk) → rs.Nodup → (∀ w', Mod (fun b => b ∈ rs) w w' → K w') → closeK rs w K
  | [], w, K, _, _, hK => hK _ (Mod.refl _ _)
  | r :: rs, w, K, h, hnd, hK => by
    obtain ⟨h1, h2⟩ := List.nodup_cons.1 hnd
    refine ⟨h r (by simp), close_ok rs (fun r' hr' => ?_) h2 fun w' M => hK w' ?_⟩
    · rw [World.putObj_heap_other (fun e => h1 (by rw [← e]; exact hr'))]
      exact h r' (by simp [hr'])
    · exact (Mod.putObj w r (.deferred none)).trans M (fun x _ e => by subst e; simp) fun x _ hx => by simp [hx]
section
variable {σ : Type} {S : Srcs σ} {w0 w : World} {D : Nat → Prop} {y : Ly} {en : Nat → Int} {St : σ → (Nat → Option (List Thing)) → Prop} {tot : Nat} {Fin : (Nat → Option (List Thing)) → Prop} {err : Int} {X : List (Nat × Obj)} {p : PM} {ro : List (Nat × List Value)} {t : σ} {F : Nat → Prop} {c : Nat} {rest : List Thing}
theorem Go'.law (h : Go' S w0 D y en St tot Fin err X p ro t F c rest w) (hX : ∀ q ∈ X, isFar q.2 = true) {ro' : List (Nat × List Value)} {w' : World} (hA : At w (Ks ro) ro' w') : Go' S w0 D y en St tot Fin err X p ro' t F c rest w' :=
  ⟨h.mf.law hA, h.tell, fun q hq => ⟨h.mf.far hA.mod (h.far q hq).1 (hX q hq), (h.far q hq).2⟩⟩
theorem Go'.calm (h : Go' S w0 D y en St tot Fin err X p ro t F c rest w) {w' : World} (hM : Mod (fun _ => False) w w') : Go' S w0 D y en St tot Fin err X p ro t F c rest w' :=
  ⟨h.mf.calm hM, h.tell, fun q hq => ⟨(hM.block _ (heap_lt (h.far q hq).1) id).trans (h.far q hq).1, (h.far q hq).2⟩⟩
theorem Go'.drop (h : Go' S w0 D y en St tot Fin err X p ro t F c rest w) {ro' : List (Nat × List Value)} (hs : ro'.Sublist ro) : Go' S w0 D y en St tot Fin err X p ro' t F c rest w := ⟨h.mf.drop hs, h.tell, h.far⟩
theorem go_next {x : Thing} (hS : Lists S en St) (hof : Of S y) (hcv : CmpOk y.cv cmpT) (hn : y.n ≤ 64) (hX : ∀ q ∈ X, isFar q.2 = true) (h : Go' S w0 D y en St tot Fin err X p ro t F c (x :: rest) w) {K : Int → Int → Bool → Int → World → Prop}
    (hK : ∀ p' t' F' w', Go' S w0 D y en St tot Fin err X p' ro t' F' (c + 1) rest w' → p'.1.ov = false → K x.1 x.2 true 0 w') : callK Try.prog 27 [.leaf (.ptr (some (y.b, 0)))] w (.tup [.agg [.int .i64, .int .i64], .leaf .bool, .leaf (.int .i64)]) K := by
  obtain ⟨n1, _⟩ := next_tell hS h.tell
  obtain ⟨r1, r2, r3⟩ := n1 _ _ rfl
  have hSn : S.n = y.n := hof.n
  rw [hSn] at r1 r2 r3
  have hov := next_ov (S := S) (cmp := cmpT) (n := y.n) (p := p) (t := t) (by rw [r1])
  refine next_far hof hcv hn h.tell.bg0 h.mf fun w' F' hm hfar => ?_
  rw [r1]
  exact hK _ _ _ _ ⟨hm, r2, fun q hq => hfar q.1 q.2 (h.far q hq).1 (hX q hq) (h.far q hq).2⟩ hov
end
theorem alls_walk {w : World} {fr : Sl} {xs : List (Sl × Int)} {Ts : List (List Thing)} (h : SrcsAt w fr xs Ts) (hlen : xs.length ≤ 1048576) (htot : remQ (LQ Ts) xs.length ≤ 1048576) (hTs : ∀ L ∈ Ts, L.length ≤ 1048576)
    {tk : Sl} {ks : List Int} (hk : RdS w EI tk ks) (hks : ∀ k ∈ ks, okI k) (hkl : ks.length ≤ 1048576)
    {K : Bool → World → Prop} (hK : ∀ w', Mod (fun _ => False) w w' → K true w') : callK Try.prog 7 [.leaf (.sl fr), .leaf (.sl tk)] w (.one (.leaf .bool)) K := by
  refine go_winnowlaw11_MergeAll _ _ _ _ ?_
  unfold S_winnowlaw11_MergeAll
  refine (At.init w fun _ => False).alK fun b3 w3 hb3 hA3 M3 => ?_
  have hA3 : At w (fun _ => False) [(b3, [.bool false])] w3 := hA3
  have h3 := h.keep M3
  have hb3lt : b3 < w3.heap.size := (hA3.blk (i := 0) rfl).lt
  refine feeds_f h3.rd Ts h3.len (fun i x l h1 h2 => (h3.each i x l h1 h2).1) hlen (fun L hL => by have := hTs L hL; omega) w3.heap.size (Nat.le_refl _) (fun x hx b hb => ?_) fun a4 w5 fbs hok hI hv hbk hge M5 => ?_
  · obtain ⟨i, hi⟩ := List.mem_iff_getElem?.1 hx
    have hil := (List.getElem?_eq_some_iff.1 hi).1
    exact (h3.each i x _ hi (List.getElem?_eq_getElem (by rw [h3.len]; exact hil))).2 b hb
  generalize hfe : mkF xs Ts fbs w3.heap.size = f at *
  have hfn : f.n = xs.length := by rw [← hfe]; rfl
  have hfen : f.en = EQ xs := by rw [← hfe]; rfl
  have hfL : f.L = LQ Ts := by rw [← hfe]; rfl
  have hfbase : f.base = w3.heap.size := by rw [← hfe]; rfl
  have hF : ∀ b, (∃ i, i < xs.length ∧ b = f.fb i) → w3.heap.size ≤ b := by rintro b ⟨i, hi, rfl⟩; exact hge i hi
  have hA5 := hA3.keep0 M5 fun _ => id
  have hr5 : RdS w5 EP a4 ((List.range f.n).map fun i => some (f.fb i, 0)) := by rw [hfn]; exact hv.rd
  have hfl : fr.len = xs.length := h.rd.len
  rw [hfl]
  by_cases hbig : 64 < xs.length
  · refine made_big hr5 (by simpa [hfn] using hbig) (by simpa [hfn] using hlen) fun w8 M8 => ?_
    have hA8 := hA5.keep0 M8 fun _ => id
    refine ifK_t (by simp; omega) ?_
    refine hA8.st 0 rfl (Nat.le_refl 1) fun w9 hA9 _ => ?_
    have hA9 : At w (fun _ => False) [(b3, [.bool true])] w9 := hA9
    exact hA9.ld 0 (k := .bool) true rfl rfl (hK _ hA9.mod)
  have hn64 : xs.length ≤ 64 := by omega
  refine made_ok hr5 (by simpa [hfn] using hn64) fun w8 y hAy hy => ?_
  obtain ⟨hof, hmf, hrel⟩ := start_of hok hI (by rw [hfbase]; exact M5.size) rfl hAy hy
  have M8 : Mod (fun _ => False) w5 w8 := hAy.mod
  have hyn : y.n = xs.length := by rw [← hof.n]; exact hfn
  have hcv : CmpOk y.cv cmpT := by rw [hy.cv]; exact compare_ok
  have hS := f.lists hok
  refine ifK_f (by simp; omega) ?_
  refine join1 (a := .bool) (fun b w' => b = false ∧ w' = w8) (fun k hk => ifK_f rfl (hk _ _ ⟨rfl, rfl⟩)) ?_
  rintro _ w23 ⟨rfl, hw23⟩
  rw [hw23]
  refine ifK_f rfl ?_
  have h8 := (h3.keep M5).keep M8
  refine ref_run h8 hlen htot fun a26 a28 w29 hout _ ho1 _ M29 => ?_
  generalize hOUT : (runM xs.length (EQ xs) (LQ Ts)).1 = OUT at hout
  generalize hERR : (runM xs.length (EQ xs) (LQ Ts)).2 = ERR
  have hOl : OUT.length ≤ 1048576 := by rw [← hOUT]; exact Nat.le_trans runM_len htot
  have hol : a26.len = OUT.length := hout.len
  obtain ⟨D', hm29, d1, _⟩ := hmf.reb' M29
  have dlt : ∀ b, D' b → b < w8.heap.size := fun b hb => (d1 b hb).1
  have d3 : ∀ b, D' b → w3.heap.size ≤ b := fun b hb => by
    rcases Nat.lt_or_ge b w5.heap.size with hlt | hge'
    · exact hF b ((d1 b hb).2 hlt)
    · exact Nat.le_trans M5.size hge'
  have hM29w : Mod (fun _ => False) w w29 := mod0 (mod0 (mod0 M3 M5) M8) M29
  have hMw : ∀ {w' : World}, Mod D' w29 w' → Mod (fun _ => False) w w' := fun {w'} hM => Mod.fresh hM29w hM fun x hx hd => by have := d3 x hd; have := M3.size; omega
  have hout' : ∀ {w' : World}, Mod D' w29 w' → RdS w' ET a26 OUT := fun {w'} hM => hout.keep hM fun b hb hd => by have := ho1 b hb.2; have := dlt b hd; omega
  have ht0 : Tell (f.src hok) f.en f.St (remQ f.L f.n) (fun _ => True) (s0 f.n, []) (fun _ => zFS) 0 OUT ERR := by
    refine .start rfl rfl rfl rfl hrel ?_ rfl fun R hR => trivial
    show runM f.n f.en f.L = _
    rw [hfn, hfen, hfL, ← hOUT, ← hERR]
  refine hm29.rest.alK fun b21 w31 _ hA31 _ => ?_
  have hA31 : At w29 (Ks []) [(b21, [(LV.sl ⟨none, 0, 0⟩).toV, .int .i64 0])] w31 := hA31
  refine hA31.st 0 rfl (Nat.le_refl 2) fun w32 hA32 _ => ?_
  have hA32 : At w29 (Ks []) [(b21, [(LV.sl a26).toV, .int .i64 ERR])] w32 := hA32
  generalize hwc : ([(LV.sl a26).toV, .int .i64 ERR] : List Value) = wc at hA32
  have hwc0 : wc[0]? = some (LV.mk .sl a26).toV := by rw [← hwc]; rfl
  have hwc1 : wc[1]? = some (LV.mk (.int .i64) ERR).toV := by rw [← hwc]; rfl
  refine hA32.alK fun b24 w33 _ hA33 _ => ?_
  have hA33 : At w29 (Ks []) ([(b21, wc)] ++ [(b24, [.int .i64 0])]) w33 := hA33
  refine At.last hA33 (Nat.le_refl 1) fun w34 hA34 => ?_
  let M2 (c : Nat) : List (Nat × List Value) := [(b21, wc), (b24, [.int .i64 (c : Nat)])]
  have hm34 := hm29.law (r' := M2 0) hA34
  let Xm (ms : List Nat) : List (Nat × Obj) := ms.map fun r => (r, Mk)
  have hXm : ∀ ms, ∀ q ∈ Xm ms, isFar q.2 = true := fun ms q hq => by
    obtain ⟨r, _, rfl⟩ := List.mem_map.1 hq; rfl
  let GG (ms : List Nat) (p : PM) (ro : List (Nat × List Value)) (t : Nat → FS) (F : Nat → Prop) (c : Nat) (w' : World) : Prop := Go' (f.src hok) w29 D' y f.en f.St (remQ f.L f.n) (fun _ => True) ERR (Xm ms) p ro t F c (OUT.drop c) w' ∧ p.1.ov = false ∧ c ≤ OUT.length
  let St2 (ms : List Nat) (c : Nat) (w' : World) : Prop := (∃ p t F, GG ms p (M2 c) t F c w') ∧ ms.Nodup ∧ ∀ r ∈ ms, w29.heap.size ≤ r
  have hdrop : ∀ {c : Nat} (hc : c < OUT.length), OUT.drop c = OUT[c] :: OUT.drop (c + 1) := fun {c} hc => List.drop_eq_getElem_cons hc
  refine join1 (a := .marks) (fun ms w' => ∃ c, St2 ms c w') (fun k hk1 => ?_) ?_
  · refine loop2 (k1 := .int .i64) (k2 := .marks) (fun x ms w' => ∃ (i c : Nat), x = i ∧ i ≤ ks.length ∧ St2 ms c w') (fun x _ _ => ks.length - x.toNat) rfl rfl ⟨0, 0, rfl, Nat.zero_le _, ⟨_, _, _, ⟨hm34, ht0, by simp [Xm]⟩, rfl, Nat.zero_le _⟩, List.nodup_nil, by simp⟩ ?_
    rintro x ms wA ⟨i, c, rfl, hi, ⟨p, t, F, hgo, hov, hc⟩, hnd, hgem⟩
    refine ifK_intro (fun hlt => ?_) (fun hlt => hk1 _ _ ⟨c, ⟨p, t, F, hgo, hov, hc⟩, hnd, hgem⟩)
    have hlt' : i < ks.length := by rw [hk.len] at hlt; simpa using hlt
    refine join1 (a := .marks) (fun ms' w' => ∃ c', St2 ms' c' w') (fun k hk2 => ?_) ?_
    rotate_left
    · rintro ms' w' ⟨c', hst⟩
      rw [set_step (by omega)]
      exact ⟨⟨i + 1, c', rfl, hlt', hst⟩, by simp; omega⟩
    have hkk : okI ks[i] := hks _ (List.getElem_mem hlt')
    generalize hkx : ks[i] = kk at hkk
    have hb1 := okI_in hkk
    refine (hk.keep (hMw hgo.mf.at0) fun _ _ => id).ix rfl rfl (List.getElem?_eq_getElem hlt') fun b o _ hcell => ld_cell (k := .int .i64) ks[i] (hcell 0 (by decide)) ?_
    rw [hkx]
    refine hgo.mf.rest.alK fun b36 w37 _ hA37 _ => ?_
    refine At.last hA37 (Nat.le_refl 1) fun w38 hA38 => ?_
    have hA38 : At wA (Ks (M2 c)) (M2 c ++ [(b36, [.int .i64 kk])]) w38 := hA38
    have hgo38 := hgo.law (hXm ms) hA38
    refine ifK_intro (fun _ => ?_) (fun _ => ?_)
    · -- one by one
      refine join0 (fun w' => ∃ c', St2 ms c' w') (fun k3 hk3 => ?_) fun w' hst => hk2 _ _ hst
      refine loop1 (k := .int .i64) (fun j w' => ∃ c p t F, GG ms p (M2 c ++ [(b36, [.int .i64 kk])]) t F c w' ∧ 0 ≤ j) (fun j _ => (kk - j).toNat) rfl ⟨c, p, t, F, ⟨hgo38, hov, hc⟩, Int.le_refl _⟩ ?_
      rintro j w42 ⟨c, p, t, F, ⟨hgo, hov, hc⟩, hj⟩
      have hro := hgo.mf.rest
      refine join1 (a := .bool) (fun b w' => w' = w42 ∧ b = decide (j < kk ∧ c < OUT.length)) (fun k4 hk4 => ?_) ?_
      · refine hro.ld 2 (k := .int .i64) kk rfl rfl (ifK_intro (fun h1 => ?_) (fun h1 => hk4 _ _ ⟨rfl, ?_⟩))
        · refine hro.ld 1 (k := .int .i64) ((c : Nat) : Int) rfl rfl (hro.ld 0 (k := .sl) a26 rfl hwc0 (hk4 _ _ ⟨rfl, ?_⟩))
          have h1 : j < kk := of_decide_eq_true h1
          rw [hol]
          simp [h1]
        · have h1 : ¬ j < kk := of_decide_eq_false h1
          simp [h1]
      rintro _ w48 ⟨hw48, rfl⟩
      rw [hw48]
      refine ifK_intro (fun h1 => ?_) (fun h1 => hk3 _ ⟨c, ⟨p, t, F, hgo.drop (List.sublist_append_left _ _), hov, hc⟩, hnd, hgem⟩)
      obtain ⟨h1, h2⟩ : j < kk ∧ c < OUT.length := of_decide_eq_true h1
      rw [hdrop h2] at hgo
      refine go_next hS hof hcv (by omega) (hXm ms) hgo fun p' t' F' w53 hgo53 hov53 => ?_
      refine hgo53.mf.rest.alK fun b54 w55 _ hA55 _ => ?_
      refine At.last hA55 (Nat.le_refl 2) fun w56 hA56 => ?_
      have hA56 : At w53 (Ks (M2 c ++ [(b36, [.int .i64 kk])])) ([(b21, wc), (b24, [.int .i64 (c : Nat)]), (b36, [.int .i64 kk]), (b54, ET.f OUT[c])]) w56 := hA56
      have hgo56 := hgo53.law (hXm ms) hA56
      refine join1 (a := .bool) (fun b w' => b = false ∧ Go' (f.src hok) w29 D' y f.en f.St (remQ f.L f.n) (fun _ => True) ERR (Xm ms) p' (M2 c ++ [(b36, [.int .i64 kk])]) t' F' (c + 1) (OUT.drop (c + 1)) w') (fun k5 hk5 => ?_) ?_
      · refine ⟨fun _ => False, ?_⟩
        have hgo58 := hgo56.calm (Mod.drew _ _)
        have hro58 := hgo58.mf.rest
        refine ifK_f rfl (ifK_f rfl ?_)
        refine hro58.ldD 3 (k := .int .i64) OUT[c].1 rfl rfl id (hro58.ldD 3 (k := .int .i64) OUT[c].2 rfl rfl id (hro58.ldD 0 (k := .sl) a26 rfl hwc0 id (hro58.ldD 1 (k := .int .i64) ((c : Nat) : Int) rfl rfl id ?_)))
        refine (hout' hgo58.mf.at0).ix rfl rfl (List.getElem?_eq_getElem h2) fun b o _ hcell => ldD_cell (k := .int .i64) OUT[c].1 id (hcell 0 (by decide)) (ldD_cell (k := .int .i64) OUT[c].2 id (hcell 1 (by decide)) ?_)
        exact neq_thing ⟨Mod.refl _ _, hk5 _ _ ⟨by simp, hgo58.drop (List.sublist_append_left [(b21, wc), (b24, [.int .i64 (c : Nat)]), (b36, [.int .i64 kk])] _)⟩⟩
      · rintro _ w70 ⟨rfl, hgo70⟩
        refine ifK_f rfl ?_
        have hro70 := hgo70.mf.rest
        refine hro70.ld 1 (k := .int .i64) ((c : Nat) : Int) rfl rfl (hro70.st 1 rfl (Nat.le_refl 1) fun w75 hA75 _ => ?_)
        rw [set_step (by omega)] at hA75
        have hA75 : At w70 (Ks (M2 c ++ [(b36, [.int .i64 kk])])) (M2 (c + 1) ++ [(b36, [.int .i64 kk])]) w75 := hA75
        have h1' : @LT.lt Int _ j kk := h1
        have hj' : @LE.le Int _ 0 j := hj
        have e1 : w64 (j + 1) = j + 1 := w64_in (by omega) (by omega)
        rw [e1]
        refine ⟨⟨c + 1, p', t', F', ⟨hgo70.law (hXm ms) hA75, hov53, h2⟩, ?_⟩, ?_⟩
        · show @LE.le Int _ 0 (j + 1); omega
        · show (kk - (j + 1)).toNat < (kk - j).toNat; omega
    · -- all in a range
      have hro := hgo38.mf.rest
      refine join1 (a := .bool) (fun b w' => w' = w38 ∧ b = decide (kk < 1 ∨ c = OUT.length)) (fun k4 hk4 => ?_) ?_
      · refine hro.ld 2 (k := .int .i64) kk rfl rfl (ifK_intro (fun h1 => hk4 _ _ ⟨rfl, ?_⟩) (fun h1 => ?_))
        · have h1 : kk < 1 := of_decide_eq_true h1
          simp [h1]
        · refine hro.ld 1 (k := .int .i64) ((c : Nat) : Int) rfl rfl (hro.ld 0 (k := .sl) a26 rfl hwc0 (hk4 _ _ ⟨rfl, ?_⟩))
          have h1 : ¬ kk < 1 := of_decide_eq_false h1
          rw [hol]
          by_cases h2 : c = OUT.length
          · simp [h2]
          · have : ¬ ((c : Nat) : Int) = (OUT.length : Nat) := by omega
            simp [h1, h2, this]
      rintro _ w82 ⟨hw82, rfl⟩
      rw [hw82]
      refine ifK_intro (fun h1 => hk2 _ _ ⟨c, ⟨p, t, F, hgo38.drop (List.sublist_append_left _ _), hov, hc⟩, hnd, hgem⟩) (fun h1 => ?_)
      obtain ⟨h1, h2⟩ : 1 ≤ kk ∧ c < OUT.length := by
        have : ¬ (kk < 1 ∨ c = OUT.length) := of_decide_eq_false h1
        omega
      refine go_merge_Merge_All_winnowref11_Thing _ _ _ ?_
      unfold S_merge_Merge_All_winnowref11_Thing
      refine hro.alK fun bm w84 _ hA84 _ => ?_
      let M4 (c : Nat) (kk : Int) : List (Nat × List Value) := [(b21, wc), (b24, [.int .i64 (c : Nat)]), (b36, [.int .i64 kk]), (bm, [(LV.ptr (some (y.b, 0))).toV])]
      have hA84 : At w38 (Ks (M2 c ++ [(b36, [.int .i64 kk])])) (M4 c kk) w84 := hA84
      have hgo84 := hgo38.law (hXm ms) hA84
      refine .inr ⟨_, _, _, rfl, ifK_f rfl ?_⟩
      refine join1 (a := .marks) (fun ms' w' => ∃ c', St2 ms' c' w') (fun k5 hk5 => ?_) fun ms' w' hst => hk2 _ _ hst
      have hmslt : ∀ r ∈ ms, r < w84.heap.size := fun r hr => heap_lt (hgo84.far (r, Mk) (List.mem_map_of_mem hr)).1
      refine range_all (X0 := Xm ms) (G := fun ro c rest => ∃ kk : Int, 1 ≤ kk ∧ kk ≤ 9223372036854775807 ∧ c < OUT.length ∧ rest = OUT.drop c ∧ ro = M4 c kk) (Stop := fun j ro c rest => j = 1 ∧ ∃ kk : Int, c ≤ OUT.length ∧ rest = OUT.drop c ∧ ro = M4 c kk) (tot := remQ f.L f.n) (Fin := fun _ => True) (err := ERR) hS hof hcv (by omega) (hXm ms)
        (fun ro c rest hG => by obtain ⟨kk, _, _, _, _, rfl⟩ := hG; simp [M4]) hgo84 ⟨kk, h1, hb1.2, h2, rfl, rfl⟩ ?_ ?_ ?_
      · intro l p t F ro c x rest w' beg next leave Xr Xb hm hov hT hG hXr hXrk hbeg hXbk hnext hleave
        obtain ⟨kk, g1, g1', g2, g3, rfl⟩ := hG
        rw [hdrop g2] at g3
        injection g3 with g3 g4
        subst g3; subst g4
        refine hm.rest.alK fun b100 w101 _ hA101 _ => ?_
        refine At.last hA101 (Nat.le_refl 2) fun w102 hA102 => ?_
        have hA102 : At w' (Ks (M4 c kk)) (M4 c kk ++ [(b100, ET.f OUT[c])]) w102 := hA102
        have hm102 := hm.law hA102
        refine hbeg _ _ _ hm102 (hXrk _ _ _ hm hA102.mod hXr) fun w103 hm103 hXb103 => ?_
        refine join1 (a := .bool) (fun b w' => b = false ∧ MF (f.src hok) w29 D' y p (M4 c kk) t F w' ∧ Xb w') (fun k6 hk6 => ?_) ?_
        · refine ⟨fun _ => False, ?_⟩
          have hm105 := hm103.calm (Mod.drew _ _)
          have hXb105 := hXbk _ _ _ hm103 (Mod.drew _ _) hXb103
          have hro5 := hm105.rest
          refine hro5.ldD 1 (k := .int .i64) ((c : Nat) : Int) rfl rfl id (hro5.ldD 0 (k := .sl) a26 rfl hwc0 id (ifK_f (by rw [hol]; simp; omega) ?_))
          refine hro5.ldD 4 (k := .int .i64) OUT[c].1 rfl rfl id (hro5.ldD 4 (k := .int .i64) OUT[c].2 rfl rfl id (hro5.ldD 0 (k := .sl) a26 rfl hwc0 id (hro5.ldD 1 (k := .int .i64) ((c : Nat) : Int) rfl rfl id ?_)))
          refine (hout' hm105.at0).ix rfl rfl (List.getElem?_eq_getElem g2) fun b o _ hcell => ldD_cell (k := .int .i64) OUT[c].1 id (hcell 0 (by decide)) (ldD_cell (k := .int .i64) OUT[c].2 id (hcell 1 (by decide)) ?_)
          exact neq_thing ⟨Mod.refl _ _, hk6 _ _ ⟨by simp, hm105.drop (List.sublist_append_left (M4 c kk) _), hXb105⟩⟩
        · rintro _ w119 ⟨rfl, hm119, hXb119⟩
          refine ifK_f rfl ?_
          refine hm119.rest.ld 1 (k := .int .i64) ((c : Nat) : Int) rfl rfl (hm119.rest.st 1 rfl (Nat.le_refl 1) fun w122 hA122 _ => ?_)
          rw [set_step (by omega)] at hA122
          have hA122 : At w119 (Ks (M4 c kk)) (M4 (c + 1) kk) w122 := hA122
          have hm122 := hm119.law hA122
          have hXb122 := hXbk _ _ _ hm119 hA122.mod hXb119
          refine hm122.rest.ld 2 (k := .int .i64) kk rfl rfl (hm122.rest.st 2 rfl (Nat.le_refl 1) fun w124 hA124 _ => ?_)
          rw [w64_in (by omega) (by omega)] at hA124
          have hA124 : At w122 (Ks (M4 (c + 1) kk)) (M4 (c + 1) (kk - 1)) w124 := hA124
          have hm124 := hm122.law hA124
          have hXb124 := hXbk _ _ _ hm122 hA124.mod hXb122
          refine join1 (a := .bool) (fun b w' => w' = w124 ∧ b = decide (kk - 1 = 0 ∨ c + 1 = OUT.length)) (fun k6 hk6 => ?_) ?_
          · refine hm124.rest.ld 2 (k := .int .i64) (kk - 1) rfl rfl (ifK_intro (fun h9 => hk6 _ _ ⟨rfl, ?_⟩) (fun h9 => ?_))
            · have h9 : kk - 1 = 0 := eq_of_beq h9
              simp [h9]
            · refine hm124.rest.ld 1 (k := .int .i64) ((c + 1 : Nat) : Int) rfl rfl (hm124.rest.ld 0 (k := .sl) a26 rfl hwc0 (hk6 _ _ ⟨rfl, ?_⟩))
              have h9 : ¬ kk - 1 = 0 := ne_of_beq_false h9
              rw [hol]
              by_cases h8 : c + 1 = OUT.length
              · simp [h8]
              · have : ¬ ((c + 1 : Nat) : Int) = (OUT.length : Nat) := by omega
                have e1 : (((c + 1 : Nat) : Int) == (OUT.length : Nat)) = false := beq_false_of_ne this
                rw [e1]; simp [h9, h8]
          · rintro _ w130 ⟨hw130, rfl⟩
            rw [hw130]
            refine ifK_intro (fun h9 => hleave 1 _ _ hm124 hXb124 ⟨rfl, kk - 1, by omega, rfl, rfl⟩) (fun h9 => hnext _ _ hm124 hXb124 ⟨kk - 1, ?_, by omega, ?_, rfl, rfl⟩)
            · have : ¬ (kk - 1 = 0 ∨ c + 1 = OUT.length) := of_decide_eq_false h9
              omega
            · have : ¬ (kk - 1 = 0 ∨ c + 1 = OUT.length) := of_decide_eq_false h9
              omega
      · intro p t F ro c u _ _ hG
        obtain ⟨_, _, _, g2, g3, _⟩ := hG
        have := congrArg List.length g3
        simp at this; omega
      · intro j p t F ro c rest u hgo hov hSt
        obtain ⟨rfl, kk, g1, rfl, rfl⟩ := hSt
        refine ⟨_, rfl, hk5 _ _ ⟨c, ⟨p, t, F, ?_, hov, g1⟩, List.nodup_cons.2 ⟨fun hm => Nat.lt_irrefl _ (hmslt _ hm), hnd⟩, ?_⟩⟩
        · have : Go' (f.src hok) w29 D' y f.en f.St (remQ f.L f.n) (fun _ => True) ERR (Xm (w84.heap.size :: ms)) p (M4 c kk) t F c (OUT.drop c) u := hgo
          exact this.drop (List.sublist_append_left (M2 c) [(b36, [.int .i64 kk]), (bm, [(LV.ptr (some (y.b, 0))).toV])])
        · intro r hr
          rcases List.mem_cons.1 hr with rfl | hr
          · exact hgo84.mf.at0.size
          · exact hgem r hr
  · rintro ms w144 ⟨c, ⟨p, t, F, hgo, hov, hc⟩, hnd, hgem⟩
    refine err_ok hgo.mf (ifK_f (by rw [tell_e hgo.tell hov]; rfl) ?_)
    refine go_merge_Merge_All_winnowref11_Thing _ _ _ ?_
    unfold S_merge_Merge_All_winnowref11_Thing
    refine hgo.mf.rest.alK fun bm w151 _ hA151 _ => ?_
    let M3 (c : Nat) : List (Nat × List Value) := [(b21, wc), (b24, [.int .i64 (c : Nat)]), (bm, [(LV.ptr (some (y.b, 0))).toV])]
    have hA151 : At w144 (Ks (M2 c)) (M3 c) w151 := hA151
    have hgo151 := hgo.law (hXm ms) hA151
    refine .inr ⟨_, _, _, rfl, ifK_f rfl ?_⟩
    have hmslt : ∀ r ∈ ms, r < w151.heap.size := fun r hr => heap_lt (hgo151.far (r, Mk) (List.mem_map_of_mem hr)).1
    refine range_all (X0 := Xm ms) (G := fun ro c rest => c ≤ OUT.length ∧ rest = OUT.drop c ∧ ro = M3 c) (Stop := fun _ _ _ _ => False) (tot := remQ f.L f.n) (Fin := fun _ => True) (err := ERR) hS hof hcv (by omega) (hXm ms)
      (fun ro c rest hG => by obtain ⟨_, _, rfl⟩ := hG; simp [M3]) hgo151 ⟨hc, rfl, rfl⟩ ?_ ?_ ?_
    · intro l p t F ro c x rest w' beg next leave Xr Xb hm hov hT hG hXr hXrk hbeg hXbk hnext hleave
      obtain ⟨g2, g3, rfl⟩ := hG
      have g2 : c < OUT.length := by
        rcases Nat.lt_or_ge c OUT.length with h9 | h9
        · exact h9
        · rw [List.drop_eq_nil_of_le h9] at g3; cases g3
      rw [hdrop g2] at g3
      injection g3 with g3 g4
      subst g3; subst g4
      refine hm.rest.alK fun b100 w101 _ hA101 _ => ?_
      refine At.last hA101 (Nat.le_refl 2) fun w102 hA102 => ?_
      have hA102 : At w' (Ks (M3 c)) (M3 c ++ [(b100, ET.f OUT[c])]) w102 := hA102
      have hm102 := hm.law hA102
      refine hbeg _ _ _ hm102 (hXrk _ _ _ hm hA102.mod hXr) fun w103 hm103 hXb103 => ?_
      refine join1 (a := .bool) (fun b w' => b = false ∧ MF (f.src hok) w29 D' y p (M3 c) t F w' ∧ Xb w') (fun k6 hk6 => ?_) ?_
      · refine ⟨fun _ => False, ?_⟩
        have hm105 := hm103.calm (Mod.drew _ _)
        have hXb105 := hXbk _ _ _ hm103 (Mod.drew _ _) hXb103
        have hro5 := hm105.rest
        refine hro5.ldD 1 (k := .int .i64) ((c : Nat) : Int) rfl rfl id (hro5.ldD 0 (k := .sl) a26 rfl hwc0 id (ifK_f (by rw [hol]; simp; omega) ?_))
        refine hro5.ldD 3 (k := .int .i64) OUT[c].1 rfl rfl id (hro5.ldD 3 (k := .int .i64) OUT[c].2 rfl rfl id (hro5.ldD 0 (k := .sl) a26 rfl hwc0 id (hro5.ldD 1 (k := .int .i64) ((c : Nat) : Int) rfl rfl id ?_)))
        refine (hout' hm105.at0).ix rfl rfl (List.getElem?_eq_getElem g2) fun b o _ hcell => ldD_cell (k := .int .i64) OUT[c].1 id (hcell 0 (by decide)) (ldD_cell (k := .int .i64) OUT[c].2 id (hcell 1 (by decide)) ?_)
        exact neq_thing ⟨Mod.refl _ _, hk6 _ _ ⟨by simp, hm105.drop (List.sublist_append_left (M3 c) _), hXb105⟩⟩
      · rintro _ w119 ⟨rfl, hm119, hXb119⟩
        refine ifK_f rfl ?_
        refine hm119.rest.ld 1 (k := .int .i64) ((c : Nat) : Int) rfl rfl (hm119.rest.st 1 rfl (Nat.le_refl 1) fun w122 hA122 _ => ?_)
        rw [set_step (by omega)] at hA122
        have hA122 : At w119 (Ks (M3 c)) (M3 (c + 1)) w122 := hA122
        exact hnext _ _ (hm119.law hA122) (hXbk _ _ _ hm119 hA122.mod hXb119) ⟨g2, rfl, rfl⟩
    · intro p t F ro c u hgo hov hG
      obtain ⟨g2, g3, rfl⟩ := hG
      have hcl : c = OUT.length := by
        have := congrArg List.length g3
        simp at this; omega
      subst hcl
      have hMu : Mod D' w29 u := hgo.mf.at0
      have hnd3 : ¬ D' b3 := fun hd => by have := d3 b3 hd; omega
      have hbu : Blk u b3 [.bool false] := hMu.blk (M29.blk (M8.blk (hA5.blk (i := 0) rfl) id) id) hnd3
      have hmk : ∀ r ∈ w151.heap.size :: ms, u.heap[r]? = some Mk := fun r hr => by
        rcases List.mem_cons.1 hr with rfl | hr
        · exact (hgo.far (w151.heap.size, Mk) (by simp)).1
        · exact (hgo.far (r, Mk) (List.mem_cons_of_mem _ (List.mem_map_of_mem hr))).1
      have hmge : ∀ r ∈ w151.heap.size :: ms, w29.heap.size ≤ r := fun r hr => by
        rcases List.mem_cons.1 hr with rfl | hr
        · exact hgo151.mf.at0.size
        · exact hgem r hr
      have hb3ne : ∀ r ∈ w151.heap.size :: ms, r ≠ b3 := fun r hr e => by
        have h1 := hmge r hr
        have := M5.size; have := M8.size; have := M29.size
        omega
      refine join0 (fun w' => ∃ u', Mod (fun _ => False) u u' ∧ At u' (fun b => b = b3) [(b3, [.bool true])] w') (fun k hk => ?_) ?_
      · refine ⟨fun _ => False, ?_⟩
        have hm2 := hgo.mf.calm (Mod.drew _ _)
        have hbu2 := (Mod.drew (fun _ => False) u).blk hbu id
        have hA2 : At u.drew (fun b => b = b3) [(b3, [.bool false])] u.drew := (At.init u.drew _).add hbu2 (by simp) fun _ => rfl
        refine hm2.rest.ldD 1 (k := .int .i64) ((OUT.length : Nat) : Int) rfl rfl id (hm2.rest.ldD 0 (k := .sl) a26 rfl hwc0 id (ifK_t (by rw [hol]; simp) ?_))
        refine hm2.rest.ldD 0 (k := .int .i64) ERR rfl hwc1 id (err_ok hm2 ⟨Mod.refl _ _, ?_⟩)
        rw [(tell_over hgo.tell hov).1]
        refine hA2.st 0 rfl (Nat.le_refl 1) fun w198 hA198 _ => hk _ ⟨u.drew, Mod.drew _ _, ?_⟩
        have e : ((ERR == ERR) : Bool) = true := beq_self_eq_true ERR
        rw [e] at hA198
        exact hA198
      · rintro w200 ⟨u', hMu', hA200⟩
        refine close_ok _ (fun r hr => ?_) (List.nodup_cons.2 ⟨fun hm => Nat.lt_irrefl _ (hmslt _ hm), hnd⟩) fun w201 M201 => ?_
        · have h1 := (hMu'.block _ (heap_lt (hmk r hr)) id).trans (hmk r hr)
          exact (hA200.mod.block _ (heap_lt h1) (hb3ne r hr)).trans h1
        · have hbT : Blk w201 b3 [.bool true] := M201.blk (hA200.blk (i := 0) rfl) fun hm => hb3ne _ hm rfl
          refine ld_cell (k := .bool) true ((hbT.cell 0).trans rfl) (hK _ ?_)
          have e1 := mod0 (hMw hMu) hMu'
          have e2 : Mod (fun _ => False) w w200 := Mod.fresh e1 hA200.mod fun x hx e => by subst e; omega
          refine Mod.fresh e2 M201 fun x hx hm => ?_
          have := hmge x hm; have := hM29w.size; omega
    · intro j p t F ro c rest u _ _ hst
      exact hst.elim
end Go.Proofs.Ytfhojgammfkabaa
