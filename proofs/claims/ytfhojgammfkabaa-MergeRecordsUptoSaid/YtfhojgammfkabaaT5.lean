/- MergeTells, walked. -/
import Derived.Test.YtfhojgammfkabaaT4
namespace Go.Proofs.Ytfhojgammfkabaa
open Go.Vw

theorem mod0 {a b c : World} (h : Mod (fun _ => False) a b) (k : Mod (fun _ => False) b c) : Mod (fun _ => False) a c := h.trans k (fun _ _ h => h) fun _ _ h => h
theorem tells_walk {w : World} {fr : Sl} {xs : List (Sl × Int)} {Ts : List (List Thing)} (h : SrcsAt w fr xs Ts) (hlen : xs.length ≤ 1048576) (htot : remQ (LQ Ts) xs.length ≤ 1048576) (hTs : ∀ L ∈ Ts, L.length ≤ 1048576)
    {K : Bool → World → Prop} (hK : ∀ w', Mod (fun _ => False) w w' → K true w') : callK Try.prog 6 [.leaf (.sl fr)] w (.one (.leaf .bool)) K := by
  refine go_winnowlaw11_MergeTells _ _ _ ?_
  unfold S_winnowlaw11_MergeTells
  refine (At.init w fun _ => False).alK fun b2 w3 hb2 hA3 M3 => ?_
  have hA3 : At w (fun _ => False) [(b2, [.bool false])] w3 := hA3
  have h3 := h.keep M3
  have hb2lt : b2 < w3.heap.size := (hA3.blk (i := 0) rfl).lt
  refine feeds_f h3.rd Ts h3.len (fun i x l h1 h2 => (h3.each i x l h1 h2).1) hlen (fun L hL => by have := hTs L hL; omega) w3.heap.size (Nat.le_refl _) (fun x hx b hb => ?_) fun a4 w5 fbs hok hI hv hbk hge M5 => ?_
  · obtain ⟨i, hi⟩ := List.mem_iff_getElem?.1 hx
    have hil := (List.getElem?_eq_some_iff.1 hi).1
    exact (h3.each i x _ hi (List.getElem?_eq_getElem (by rw [h3.len]; exact hil))).2 b hb
  generalize hfe : mkF xs Ts fbs w3.heap.size = f at *
  have hfn : f.n = xs.length := by rw [← hfe]; rfl
  have hfen : f.en = EQ xs := by rw [← hfe]; rfl
  have hfL : f.L = LQ Ts := by rw [← hfe]; rfl
  have hfbase : f.base = w3.heap.size := by rw [← hfe]; rfl
  have hF : ∀ b, (∃ i, i < xs.length ∧ b = f.fb i) → w3.heap.size ≤ b := by rintro b ⟨i, hi, rfl⟩; exact hge i hi
  have hA5 := hA3.keep0 M5 fun _ => id
  have hr5 : RdS w5 EP a4 ((List.range f.n).map fun i => some (f.fb i, 0)) := by rw [hfn]; exact hv.rd
  have hal : a4.len = xs.length := by rw [hr5.len]; simp [hfn]
  have hfl : fr.len = xs.length := h.rd.len
  rw [hfl]
  by_cases hbig : 64 < xs.length
  · refine made_big hr5 (by simpa [hfn] using hbig) (by simpa [hfn] using hlen) fun w8 M8 => ?_
    have hA8 := hA5.keep0 M8 fun _ => id
    refine ifK_t (by simp; omega) (join0 (fun w' => At w (fun _ => False) [(b2, [.bool true])] w') (fun k hk => ?_) fun w' hA' => ?_)
    · refine ifK_t rfl (ifK_t rfl ?_)
      have hI8 : f.I (fun _ => zFS) (fun b => ∃ i, i < xs.length ∧ b = f.fb i) w8 := (f.src hok).keep _ _ _ _ _ hI M8 (fun _ _ => id) (fun _ _ => id)
      refine asked_ok (hr5.keep M8 fun _ _ => id) hI8 (by omega) (k := fun _ => 0) (fun _ _ => rfl) (by rw [sumTo_zero]; omega) ?_
      rw [sumTo_zero]
      exact hA8.st 0 rfl (Nat.le_refl 1) fun w9 hA9 _ => hk _ hA9
    · exact hA'.ld 0 (k := .bool) true rfl rfl (hK _ hA'.mod)
  have hn64 : xs.length ≤ 64 := by omega
  refine made_ok hr5 (by simpa [hfn] using hn64) fun w8 y hAy hy => ?_
  obtain ⟨hof, hmf, hrel⟩ := start_of hok hI (by rw [hfbase]; exact M5.size) rfl hAy hy
  have M8 : Mod (fun _ => False) w5 w8 := hAy.mod
  have hyn : y.n = xs.length := by rw [← hof.n]; exact hfn
  have hcv : CmpOk y.cv cmpT := by rw [hy.cv]; exact compare_ok
  have hS := f.lists hok
  refine ifK_f (by simp; omega) ?_
  refine join1 (a := .bool) (fun b w' => b = false ∧ w' = w8) (fun k hk => ?_) ?_
  · refine ifK_f rfl (ifK_f rfl (asked_ok (hr5.keep M8 fun _ _ => id) hmf.src (by omega) (k := fun _ => 0) (fun _ _ => rfl) (by rw [sumTo_zero]; omega) ?_))
    rw [sumTo_zero]
    exact ifK_f rfl (err_ok hmf (hk _ _ ⟨rfl, rfl⟩))
  rintro _ w23 ⟨rfl, hw23⟩
  rw [hw23]
  refine ifK_f rfl ?_
  have h8 := (h3.keep M5).keep M8
  refine ref_run h8 hlen htot fun a26 a28 w29 hout hak ho1 ho2 M29 => ?_
  generalize hOUT : (runM xs.length (EQ xs) (LQ Ts)).1 = OUT at hout
  generalize hERR : (runM xs.length (EQ xs) (LQ Ts)).2 = ERR
  have hOl : OUT.length ≤ 1048576 := by rw [← hOUT]; exact Nat.le_trans runM_len htot
  obtain ⟨D', hm29, d1, _⟩ := hmf.reb' M29
  -- what is kept from now on
  have dlt : ∀ b, D' b → b < w8.heap.size := fun b hb => (d1 b hb).1
  have dF : ∀ b, D' b → b < w5.heap.size → ∃ i, i < xs.length ∧ b = f.fb i := fun b hb hlt => (d1 b hb).2 hlt
  have d3 : ∀ b, D' b → w3.heap.size ≤ b := fun b hb => by
    rcases Nat.lt_or_ge b w5.heap.size with hlt | hge'
    · exact hF b (dF b hb hlt)
    · exact Nat.le_trans M5.size hge'
  have hr4 : ∀ {w' : World}, Mod D' w29 w' → RdS w' EP a4 ((List.range f.n).map fun i => some (f.fb i, 0)) := fun {w'} hM => by
    refine ((hr5.keep M8 fun _ _ => id).keep M29 fun _ _ => id).keep hM fun b hb hd => ?_
    have hb5 := hv.lt hb.2
    obtain ⟨i, hi, e⟩ := dF b hd hb5
    exact (hbk b hb.2).2 i hi e
  have hout' : ∀ {w' : World}, Mod D' w29 w' → RdS w' ET a26 OUT := fun {w'} hM => hout.keep hM fun b hb hd => by have := ho1 b hb.2; have := dlt b hd; omega
  have hak' : ∀ {w' : World}, Mod D' w29 w' → RdS w' EI a28 ((List.range xs.length).map fun i => ((asksF xs.length (EQ xs) (LQ Ts) i : Nat) : Int)) := fun {w'} hM => hak.keep hM fun b hb hd => by have := ho2 b hb.2; have := dlt b hd; omega
  let Fin : (Nat → Option (List Thing)) → Prop := fun R => ∀ i, i < f.n → AccR (f.L i) (R i) = asksF xs.length (EQ xs) (LQ Ts) i
  have ht0 : Tell (f.src hok) f.en f.St (remQ f.L f.n) Fin (s0 f.n, []) (fun _ => zFS) 0 OUT ERR := by
    refine .start rfl rfl rfl rfl hrel ?_ rfl fun R hR => ?_
    · show runM f.n f.en f.L = _
      rw [hfn, hfen, hfL, ← hOUT, ← hERR]
    · have hR : endM f.n f.en f.L R := hR
      intro i hi
      rw [end_acc hR i hi, hfn, hfen, hfL]
  refine hm29.rest.alK fun b30 w31 _ hA31 _ => ?_
  have hA31 : At w29 (Ks []) [(b30, [(LV.sl ⟨none, 0, 0⟩).toV, .int .i64 0])] w31 := hA31
  refine hA31.st 0 rfl (Nat.le_refl 2) fun w32 hA32 _ => ?_
  have hA32 : At w29 (Ks []) [(b30, [(LV.sl a26).toV, .int .i64 ERR])] w32 := hA32
  have hm32 := hm29.law hA32
  generalize hwc : ([(LV.sl a26).toV, .int .i64 ERR] : List Value) = wc at hA32 hm32
  have hwc0 : wc[0]? = some (LV.mk .sl a26).toV := by rw [← hwc]; rfl
  have hwc1 : wc[1]? = some (LV.mk (.int .i64) ERR).toV := by rw [← hwc]; rfl
  have hbad : ∀ (b : Nat) (w' : World), True := fun _ _ => trivial
  -- the first loop: all that is told
  refine join0 (fun w' => ∃ p t F', MF (f.src hok) w29 D' y p [(b30, wc)] t F' w' ∧ Tell (f.src hok) f.en f.St (remQ f.L f.n) Fin p t OUT.length [] ERR) (fun k hk => ?_) ?_
  · refine loop1 (k := .int .i64) (fun x w' => ∃ (i : Nat) (p : PM) (t : Nat → FS) (F' : Nat → Prop) (rest : List Thing), x = i ∧ i ≤ OUT.length ∧ MF (f.src hok) w29 D' y p [(b30, wc)] t F' w' ∧ Tell (f.src hok) f.en f.St (remQ f.L f.n) Fin p t i rest ERR ∧ OUT.drop i = rest) (fun x _ => OUT.length - x.toNat) rfl
      ⟨0, _, _, _, OUT, rfl, Nat.zero_le _, hm32, ht0, rfl⟩ ?_
    rintro x w36 ⟨i, p, t, F', rest, rfl, hi, hm, ht, hrest⟩
    refine hm.rest.ld 0 (k := .sl) a26 rfl hwc0 ?_
    rw [hout.len]
    refine ifK_intro (fun hlt => ?_) (fun hlt => ?_)
    · have hlt' : i < OUT.length := by simpa using hlt
      have hcons : rest = OUT[i] :: OUT.drop (i + 1) := by rw [← hrest]; exact List.drop_eq_getElem_cons hlt'
      obtain ⟨n1, _⟩ := next_tell hS ht
      obtain ⟨r1, r2, r3⟩ := n1 _ _ hcons
      have hSn : (f.src hok).n = y.n := hof.n
      rw [hSn] at r1 r2 r3
      have hov := next_ov (S := f.src hok) (cmp := cmpT) (n := y.n) (p := p) (t := t) (by rw [r1])
      refine next_ok hof hcv (by omega) ht.bg0 hm fun w42 F8 hm42 => ?_
      refine hm42.rest.alK fun b43 w44 _ hA44 _ => ?_
      have hA44 : At w42 (Ks [(b30, wc)]) ((b43, zT) :: [(b30, wc)]) w44 := hA44.perm (List.perm_append_comm (l₁ := [_]))
      refine hA44.st 0 rfl (Nat.le_refl 2) fun w45 hA45 _ => ?_
      have hA45 : At w42 (Ks [(b30, wc)]) [(b43, [.int .i64 (nextM (f.src hok) cmpT y.n p t).1.1.1, .int .i64 (nextM (f.src hok) cmpT y.n p t).1.1.2]), (b30, wc)] w45 := hA45
      have hm45 := hm42.law hA45
      rw [r1] at hm45 ⊢
      refine join1 (a := .bool) (fun b w' => b = false ∧ MF (f.src hok) w29 D' y (nextM (f.src hok) cmpT y.n p t).2.1 [(b30, wc)] (nextM (f.src hok) cmpT y.n p t).2.2 F8 w') (fun k2 hk2 => ?_) ?_
      · refine ⟨fun _ => False, ?_⟩
        have hm47 := hm45.calm (Mod.drew _ _)
        refine ifK_f rfl (ifK_f rfl ?_)
        refine hm47.rest.ldD 0 (k := .int .i64) OUT[i].1 rfl rfl id (hm47.rest.ldD 0 (k := .int .i64) OUT[i].2 rfl rfl id (hm47.rest.ldD 1 (k := .sl) a26 rfl hwc0 id ?_))
        refine (hout' hm47.at0).ix rfl rfl (List.getElem?_eq_getElem hlt') fun b o _ hc => ldD_cell (k := .int .i64) OUT[i].1 id (hc 0 (by decide)) (ldD_cell (k := .int .i64) OUT[i].2 id (hc 1 (by decide)) ?_)
        refine neq_thing ⟨Mod.refl _ _, ifK_f (by simp) ?_⟩
        obtain ⟨Q, R, q1, q2, q3⟩ := tell_mid r2 hov (by omega)
        have hSt : ∀ a, a < f.n → FeedR (f.L a) ((nextM (f.src hok) cmpT y.n p t).2.2 a) (R a) := q1
        have hsum := sum_acc (L := f.L) (Q := Q) (R := R) f.n (fun a ha r hr => by
          have := hSt a ha
          rw [hr] at this
          obtain ⟨_, e, _⟩ := this
          rw [e]; simp) q2
        have q3 : remQ Q f.n + (i + 1) = remQ f.L f.n + 1 := q3
        have hrl : remQ f.L f.n ≤ 1048576 := by rw [hfL, hfn]; exact htot
        refine asked_ok (hr4 hm47.at0) hm47.src (by omega) (k := fun a => AccR (f.L a) (R a)) (fun a ha => (feed_acc (hSt a ha)).1) (by omega) ⟨Mod.refl _ _, ifK_f ?_ ?_⟩
        · rw [hal, w64_in (by omega) (by omega)]
          have : (sumTo (fun a => AccR (f.L a) (R a)) f.n : Int) = (xs.length : Nat) + (i : Nat) := by omega
          rw [this]; simp
        · refine err_ok hm47 ⟨Mod.refl _ _, hk2 _ _ ⟨?_, hm47.drop (List.sublist_cons_self _ _)⟩⟩
          rw [r3]; rfl
      · rintro _ w62 ⟨rfl, hm62⟩
        refine ifK_f rfl ?_
        rw [set_step (by omega)]
        exact ⟨⟨i + 1, _, _, F8, _, rfl, hlt', hm62, r2, rfl⟩, by simp; omega⟩
    · have hge : i = OUT.length := by have : ¬ i < OUT.length := by simpa using hlt
                                      omega
      subst hge
      rw [List.drop_length] at hrest
      subst hrest
      exact hk _ ⟨p, t, F', hm, ht⟩
  rintro w65 ⟨p0, t0, F0, hm65, ht65⟩
  -- the second loop: nothing more
  refine join0 (fun w' => ∃ p t F', MF (f.src hok) w29 D' y p [(b30, wc)] t F' w' ∧ Tell (f.src hok) f.en f.St (remQ f.L f.n) Fin p t OUT.length [] ERR ∧ p.1.ov = true) (fun k hk => ?_) ?_
  · refine loop1 (k := .int .i64) (fun x w' => ∃ (i : Nat) (p : PM) (t : Nat → FS) (F' : Nat → Prop), x = i ∧ i ≤ 3 ∧ MF (f.src hok) w29 D' y p [(b30, wc)] t F' w' ∧ Tell (f.src hok) f.en f.St (remQ f.L f.n) Fin p t OUT.length [] ERR ∧ (0 < i → p.1.ov = true)) (fun x _ => 3 - x.toNat) rfl
      ⟨0, p0, t0, F0, rfl, by omega, hm65, ht65, fun h => absurd h (Nat.lt_irrefl _)⟩ ?_
    rintro x w69 ⟨i, p, t, F', rfl, hi, hm, ht, hovi⟩
    refine ifK_intro (fun hlt => ?_) (fun hlt => ?_)
    · have hlt' : i < 3 := by have : (i : Int) < 3 := by simpa using hlt
                              omega
      obtain ⟨_, n2⟩ := next_tell hS ht
      obtain ⟨r1, r2, r3⟩ := n2 rfl
      have hSn : (f.src hok).n = y.n := hof.n
      rw [hSn] at r1 r2 r3
      refine next_ok hof hcv (by omega) ht.bg0 hm fun w74 F8 hm74 => ?_
      refine hm74.rest.alK fun b75 w76 _ hA76 _ => ?_
      have hA76 : At w74 (Ks [(b30, wc)]) ((b75, zT) :: [(b30, wc)]) w76 := hA76.perm (List.perm_append_comm (l₁ := [_]))
      refine hA76.st 0 rfl (Nat.le_refl 2) fun w77 hA77 _ => ?_
      have hA77 : At w74 (Ks [(b30, wc)]) [(b75, [.int .i64 (nextM (f.src hok) cmpT y.n p t).1.1.1, .int .i64 (nextM (f.src hok) cmpT y.n p t).1.1.2]), (b30, wc)] w77 := hA77
      have hm77 := hm74.law hA77
      rw [r1] at hm77 ⊢
      refine join1 (a := .bool) (fun b w' => b = false ∧ MF (f.src hok) w29 D' y (nextM (f.src hok) cmpT y.n p t).2.1 [(b30, wc)] (nextM (f.src hok) cmpT y.n p t).2.2 F8 w') (fun k2 hk2 => ?_) ?_
      · refine ⟨fun _ => False, ?_⟩
        have hm79 := hm77.calm (Mod.drew _ _)
        refine ifK_f rfl (hm79.rest.ldD 1 (k := .int .i64) ERR rfl hwc1 id (ifK_f (by simp) ?_))
        refine hm79.rest.ldD 0 (k := .int .i64) 0 rfl rfl id (hm79.rest.ldD 0 (k := .int .i64) 0 rfl rfl id ?_)
        refine neq_thing ⟨Mod.refl _ _, ifK_f (by simp) (hm79.rest.ldD 1 (k := .int .i64) ERR rfl hwc1 id ?_)⟩
        refine err_ok hm79 ⟨Mod.refl _ _, hk2 _ _ ⟨?_, hm79.drop (List.sublist_cons_self _ _)⟩⟩
        rw [(tell_over r2 r3).1]; simp
      · rintro _ w89 ⟨rfl, hm89⟩
        refine ifK_f rfl ?_
        rw [set_step (by omega)]
        exact ⟨⟨i + 1, _, _, F8, rfl, by omega, hm89, r2, fun _ => r3⟩, by simp; omega⟩
    · have hge : i = 3 := by have : ¬ (i : Int) < 3 := by simpa using hlt
                             omega
      subst hge
      exact hk _ ⟨p, t, F', hm, ht, hovi (by omega)⟩
  rintro w92 ⟨p1, t1, F1, hm92, ht92, hov92⟩
  refine go_merge_Merge_All_winnowref11_Thing _ _ _ ?_
  unfold S_merge_Merge_All_winnowref11_Thing
  refine hm92.rest.alK fun bm w94 _ hA94 _ => ?_
  have hA94 : At w92 (Ks [(b30, wc)]) [(b30, wc), (bm, [(LV.ptr (some (y.b, 0))).toV])] w94 := hA94
  have hm94 := hm92.law hA94
  refine .inr ⟨_, _, _, rfl, ifK_f rfl ?_⟩
  refine range_all (X0 := []) (G := fun ro _ rest => rest = [] ∧ ro = [(b30, wc), (bm, [(LV.ptr (some (y.b, 0))).toV])]) (Stop := fun _ _ _ _ => False) (tot := remQ f.L f.n) (Fin := Fin) (err := ERR) hS hof hcv (by omega) (by simp) (fun ro c rest hG => by rw [hG.2]; simp) ⟨hm94, ht92, by simp⟩ ⟨rfl, rfl⟩ ?_ ?_ ?_
  · intro l p t F ro c x rest w' beg next leave Xr Xb _ _ _ hG
    cases hG.1
  · intro p t F ro c w111 hgo hov hG
    obtain ⟨_, rfl⟩ := hG
    have hmF := hgo.mf
    have hI : f.I t F w111 := hmF.src
    obtain ⟨_, _, R, hSt, hFin⟩ := tell_over hgo.tell hov
    have hSt : ∀ a, a < f.n → FeedR (f.L a) (t a) (R a) := hSt
    have hrh := (hgo.far (w94.heap.size, Mk) (by simp)).1
    have hM111 : Mod D' w29 w111 := hmF.at0
    refine join0 (fun w' => Mod (fun _ => False) w111 w') (fun k hk => ?_) ?_
    · refine loop1 (k := .int .i64) (fun x w' => ∃ i : Nat, x = i ∧ i ≤ xs.length ∧ Mod (fun _ => False) w111 w') (fun x _ => xs.length - x.toNat) rfl ⟨0, rfl, Nat.zero_le _, Mod.refl _ _⟩ ?_
      rintro x w115 ⟨i, rfl, hi, hM⟩
      refine ifK_intro (fun hlt => ?_) (fun hlt => hk _ hM)
      have hlt' : i < xs.length := by rw [hal] at hlt; simpa using hlt
      have hlf : i < f.n := by omega
      have hM' : Mod (fun _ => False) w111 w115.drew := mod0 hM (Mod.drew _ _)
      have hr' := (hr4 hM111).keep hM' fun _ _ => id
      have hp : ((List.range f.n).map fun i => (some (f.fb i, 0) : PA))[i]? = some (some (f.fb i, 0)) := by simp [hlf]
      have hfb := hM'.blk (hI.blk i hlf) id
      obtain ⟨a1, a2⟩ := feed_acc (hSt i hlf)
      refine join1 (a := .bool) (fun b w' => b = false ∧ Mod (fun _ => False) w111 w') (fun k2 hk2 => ?_) ?_
      · refine ⟨fun _ => False, ?_⟩
        refine hr'.ix rfl rfl hp fun b o _ hc => ldD_cell (k := .ptr) (some (f.fb i, 0)) id (hc 0 (by decide)) (dr_some ?_)
        refine ldD_cell (k := .bool) (t i).bad id ((hfb.cell 5).trans rfl) (ifK_f a2 ?_)
        refine hr'.ix rfl rfl hp fun b o _ hc => ldD_cell (k := .ptr) (some (f.fb i, 0)) id (hc 0 (by decide)) (dr_some ?_)
        refine ldD_cell (k := .int .i64) (t i).asks id ((hfb.cell 3).trans rfl) ?_
        refine ((hak' hM111).keep hM' fun _ _ => id).ix rfl rfl (k := i) (x := ((asksF xs.length (EQ xs) (LQ Ts) i : Nat) : Int)) (by simp [hlt']) fun b o _ hc => ldD_cell (k := .int .i64) ((asksF xs.length (EQ xs) (LQ Ts) i : Nat) : Int) id (hc 0 (by decide)) (hk2 _ _ ⟨?_, hM'⟩)
        rw [a1, hFin i hlf]; simp
      · rintro _ w134 ⟨rfl, hM134⟩
        refine ifK_f rfl ?_
        rw [set_step (by omega)]
        exact ⟨⟨i + 1, rfl, hlt', hM134⟩, by simp; omega⟩
    · intro w138 hM138
      have hnd2 : ¬ D' b2 := fun hd => by have := d3 b2 hd; omega
      have hb138 : Blk w138 b2 [.bool false] := hM138.blk (hM111.blk (M29.blk (M8.blk (hA5.blk (i := 0) rfl) id) id) hnd2) id
      have h138 : At w138 (fun b => b = b2) [(b2, [.bool false])] w138 := (At.init w138 _).add hb138 (by simp) fun _ => rfl
      refine h138.st 0 rfl (Nat.le_refl 1) fun w139 hA139 _ => ?_
      have hA139 : At w138 (fun b => b = b2) [(b2, [.bool true])] w139 := hA139
      have hrlt := heap_lt hrh
      have hne : w94.heap.size ≠ b2 := by
        have h1 : w3.heap.size ≤ w94.heap.size := by
          have := M5.size; have := M8.size; have := M29.size; have := hm94.at0.size; omega
        omega
      have hr138 := (hM138.block _ hrlt id).trans hrh
      have hr139 := (hA139.mod.block _ (heap_lt hr138) hne).trans hr138
      refine ⟨hr139, ?_⟩
      have hbT : Blk (w139.putObj w94.heap.size (.deferred none)) b2 [.bool true] := (hA139.blk (i := 0) rfl).of_heap (World.putObj_heap_other (Ne.symm hne))
      refine ld_cell (k := .bool) true ((hbT.cell 0).trans rfl) (hK _ ?_)
      have hM29w : Mod (fun _ => False) w w29 := mod0 (mod0 (mod0 M3 M5) M8) M29
      have e1 : Mod (fun _ => False) w w138 := mod0 (Mod.fresh hM29w hM111 fun x hx hd => by have := d3 x hd; have := M3.size; omega) hM138
      have e2 : Mod (fun _ => False) w w139 := Mod.fresh e1 hA139.mod fun x hx e => by subst e; omega
      refine Mod.fresh e2 (Mod.putObj w139 w94.heap.size _) fun x hx e => ?_
      have h1 := hM29w.size; have := hm94.at0.size; omega
  · intro j p t F ro c rest u _ _ hst
    exact hst.elim
end Go.Proofs.Ytfhojgammfkabaa
