/- MergeUpTo, walked. -/
import Derived.Test.YtfhojgammfkabaaQ6
import Derived.Test.YtfhojgammfkabaaSUpTo
namespace Go.Proofs.Ytfhojgammfkabaa
open Go.Vw

theorem _root_.Go.Vw.At.ldLast {w0 w : World} {D : Nat → Prop} {m : List (Nat × List Value)} {b : Nat} {c : List Value} (h : At w0 D (m ++ [(b, c)]) w) {k : Kd} {o : Nat} (x : Den k) {K : Den k → Prop} (hx : c[o]? = some (LV.mk k x).toV) (hK : K x) : Go.Vw.ld w k b o K :=
  h.ld m.length x (by simp) hx hK
theorem tmod_in (a : Int) {n : Nat} (h : 0 < n) : -(n : Int) < a.tmod n ∧ a.tmod n < n := by
  have h1 := Int.natAbs_tmod a n
  have h2 := Nat.mod_lt a.natAbs (y := (n : Int).natAbs) (by omega)
  omega
theorem upto_walk {w : World} {fr : Sl} {ys : List (Sl × Int)} {Ls : List (List Thing)} (hf : RdS w ES fr ys) (hlen : Ls.length = ys.length) (hLs : ∀ (i : Nat) y L, ys[i]? = some y → Ls[i]? = some L → RdS w ET y.1 L) (hb : lens Ls Ls.length ≤ 1048000) (hb2 : ys.length ≤ 1048576) (which n : Int)
    {K : Bool → World → Prop} (hK : ∀ w', Mod (fun _ => False) w w' → K true w') : callK Try.prog 5 [.leaf (.sl fr), .leaf (.int .i64 which), .leaf (.int .i64 n)] w (.one (.leaf .bool)) K := by
  have m0 : ∀ {a b c : World}, Mod (fun _ => False) a b → Mod (fun _ => False) b c → Mod (fun _ => False) a c := fun h k => h.trans k (fun _ _ h => h) fun _ _ h => h
  refine go_winnowlaw11_MergeUpTo _ _ _ _ _ ?_
  unfold S_winnowlaw11_MergeUpTo
  refine tidied_ok hf hlen hLs hb hb2 fun a4 w5 zs Ts hT M1 => ?_
  have hal : a4.len = zs.length := hT.src.rd.len
  refine ifK_intro (fun _ => head_ok fun w' M => hK _ (m0 M1 M)) fun h0 => ?_
  have hz0 : 0 < zs.length := by
    have : ¬ (a4.len : Int) = 0 := by simpa using h0
    omega
  have hz64 := hT.n
  have hrem := hT.rem
  refine ⟨by omega, ?_⟩
  have htm := tmod_in which hz0
  refine join1 (a := .int .i64) (fun x w' => w' = w5 ∧ ∃ wi : Nat, wi < zs.length ∧ x = (wi : Int)) (fun k hk => ?_) ?_
  · rw [hal]
    refine ifK_intro (fun h => hk _ _ ⟨rfl, (which.tmod zs.length + zs.length).toNat, ?_⟩) (fun h => hk _ _ ⟨rfl, (which.tmod zs.length).toNat, ?_⟩)
    · have : which.tmod (zs.length : Int) < 0 := by simpa using h
      rw [w64_in (by omega) (by omega)]
      exact ⟨by omega, show (_ : Int) = _ by omega⟩
    · have : ¬ which.tmod (zs.length : Int) < 0 := by simpa using h
      exact ⟨by omega, show (_ : Int) = _ by omega⟩
  rintro _ w10 ⟨hw10, wi, hwi, rfl⟩
  rw [hw10]
  refine feedrun_ok hT.src hT.n (by omega) fun a13 w16 hout1 _ M2 => ?_
  have hT16 := hT.keep M2
  have hzi : zs[wi]? = some zs[wi] := List.getElem?_eq_getElem hwi
  have hTi : Ts[wi]? = some (LQ Ts wi) := by unfold LQ; rw [List.getElem?_eq_getElem (by rw [hT.src.len]; exact hwi)]; rfl
  have hLw := (hT16.src.each wi _ _ hzi hTi).1
  generalize hLe : LQ Ts wi = L at hTi hLw
  have hLlen : L.length ≤ 1048000 := by
    have hmono : ∀ m, wi < m → L.length ≤ remQ (LQ Ts) m := by
      intro m
      induction m with
      | zero => intro h; omega
      | succ m ih =>
        intro hm
        rw [remQ]
        by_cases e : wi = m
        · subst e; rw [hLe]; omega
        · have := ih (by omega); omega
    have := hmono _ hwi
    omega
  have ixw : ∀ {w' : World} (hM : Mod (fun _ => False) w16 w') {X : Sl → Prop}, X zs[wi].1 → Go.Vw.ix a4 2 (wi : Int) fun b o => Go.Vw.ld w' .sl b o X := fun {w'} hM {X} hX =>
    (hT16.src.rd.keep hM fun _ _ => id).ix rfl rfl hzi fun b o _ hc => ld_cell (k := .sl) zs[wi].1 (hc 0 (by decide)) hX
  refine join1 (a := .bool) (fun b w' => w' = w16 ∧ b = decide (n < 0 ∨ (L.length : Int) < n)) (fun k hk => ?_) ?_
  · refine ifK_intro (fun h => hk _ _ ⟨rfl, ?_⟩) (fun h => ixw (Mod.refl _ _) (hk _ _ ⟨rfl, ?_⟩))
    · have : n < 0 := by simpa using h
      simp [this]
    · have : ¬ n < 0 := by simpa using h
      rw [hLw.len]; simp [this]
  rintro _ w22 ⟨hw22, rfl⟩
  rw [hw22]
  refine join1 (a := .int .i64) (fun x w' => w' = w16 ∧ ∃ m : Nat, m ≤ L.length ∧ x = (m : Int)) (fun k hk => ?_) ?_
  · refine ifK_intro (fun h => ixw (Mod.refl _ _) (hk _ _ ⟨rfl, L.length, Nat.le_refl _, by rw [hLw.len]⟩)) (fun h => hk _ _ ⟨rfl, n.toNat, ?_⟩)
    have : ¬ (n < 0 ∨ (L.length : Int) < n) := by simpa using h
    exact ⟨by omega, show (_ : Int) = _ by omega⟩
  rintro _ w28 ⟨hw28, m, hm, rfl⟩
  rw [hw28]
  refine (At.init w16 fun _ => False).alK fun b29 w30 _ hA30 _ => ?_
  refine hA30.st 0 rfl (Nat.le_refl 2) fun w31 hA31 _ => ?_
  have hA31 : At w16 (fun _ => False) [(b29, [.int .i64 0, .int .i64 (-1)])] w31 := hA31
  refine join0 (fun w' => ∃ last : Thing, At w16 (fun _ => False) [(b29, ET.f last)] w' ∧ (0 < m → L[m - 1]? = some last)) (fun k hk => ?_) ?_
  · refine ifK_intro (fun h => ixw hA31.mod ?_) (fun h => hk _ ⟨(0, -1), hA31, fun h' => ?_⟩)
    · have hm0 : 0 < m := by have : (0 : Int) < m := by simpa using h
                             omega
      have hlast : L[m - 1]? = some L[m - 1] := List.getElem?_eq_getElem (by omega)
      refine (hLw.keep hA31.mod fun _ _ => id).ix rfl (by rw [w64_in (by omega) (by omega)]; omega : w64 ((m : Int) - 1) = ((m - 1 : Nat) : Int)) hlast fun b o _ hc => ?_
      refine ld_cell (k := .int .i64) L[m - 1].1 (hc 0 (by decide)) (ld_cell (k := .int .i64) L[m - 1].2 (hc 1 (by decide)) ?_)
      refine hA31.st 0 rfl (Nat.le_refl 2) fun w40 hA40 _ => hk _ ⟨L[m - 1], hA40, fun _ => hlast⟩
    · have : ¬ (0 : Int) < m := by simpa using h
      omega
  rintro w41 ⟨last, hA41, hlast⟩
  let xs := zs.set wi (zs[wi].1.cut 2 0 m zs[wi].1.cap, 77)
  have hxl : xs.length = zs.length := by simp [xs]
  have hxi : ∀ i (hi : i < zs.length), i ≠ wi → xs[i]? = some zs[i] := fun i hi hne => by simp [xs, hne.symm, hi]
  have hxw : xs[wi]? = some (zs[wi].1.cut 2 0 m zs[wi].1.cap, 77) := by simp [xs, hwi]
  refine join1 (a := .sl) (fun br w' => ∃ ro, At w16 (fun _ => False) ([(b29, ET.f last)] ++ ro) w' ∧ VecE ro ES br xs) (fun k hk => ?_) ?_
  · refine loop2 (k1 := .sl) (k2 := .int .i64) (fun br x w' => ∃ (i : Nat) (ro : List (Nat × List Value)), x = i ∧ i ≤ zs.length ∧ At w16 (fun _ => False) ([(b29, ET.f last)] ++ ro) w' ∧ VecE ro ES br (xs.take i)) (fun _ x _ => zs.length - x.toNat) rfl rfl ⟨0, [], rfl, Nat.zero_le _, by rw [List.append_nil]; exact hA41, VecE.nil _⟩ ?_
    rintro br x w46 ⟨i, ro, rfl, hi, hA, hv⟩
    refine ifK_intro (fun hlt => ?_) (fun hlt => ?_)
    · have hlt' : i < zs.length := by rw [hal] at hlt; simpa using hlt
      have hzi' : zs[i]? = some zs[i] := List.getElem?_eq_getElem hlt'
      refine (hT16.src.rd.keep hA.mod fun _ _ => id).ix rfl rfl hzi' fun b o _ hc => ld_cell (k := .sl) zs[i].1 (hc 0 (by decide)) (ld_cell (k := .int .i64) zs[i].2 (hc 1 (by decide)) ?_)
      refine hA.alK fun b51 w52 _ hA52 _ => ?_
      refine At.last hA52 (Nat.le_refl 2) fun w53 hA53 => ?_
      have hA53 : At w16 (fun _ => False) (([(b29, ET.f last)] ++ ro) ++ [(b51, ES.f zs[i])]) w53 := hA53
      obtain ⟨xi, hxi'⟩ : ∃ xi, xs[i]? = some xi := ⟨_, List.getElem?_eq_getElem (by omega)⟩
      refine join0 (fun w' => At w16 (fun _ => False) (([(b29, ET.f last)] ++ ro) ++ [(b51, ES.f xi)]) w') (fun k2 hk2 => ?_) ?_
      · refine ifK_intro (fun he => ?_) (fun he => hk2 _ ?_)
        · have he' : i = wi := by have : (i : Int) = wi := by simpa using he
                                  omega
          subst he'
          rw [hxw] at hxi'; cases hxi'
          refine hA53.ldLast (k := .sl) zs[i].1 rfl (hLw.slx hm 2 ?_)
          exact At.last hA53 (Nat.le_refl 2) fun w57 hA57 => hk2 _ hA57
        · have he' : i ≠ wi := by rintro rfl; simp at he
          rw [hxi i hlt' he'] at hxi'; cases hxi'
          exact hA53
      · intro w58 hA58
        refine hA58.ldLast (k := .sl) xi.1 rfl (hA58.ldLast (k := .int .i64) xi.2 rfl ?_)
        refine hA58.alK fun b61 w62 _ hA62 _ => ?_
        have hA62' : At w16 (fun _ => False) (([(b29, ET.f last)] ++ [(b61, ES.f xi)]) ++ ro) w62 := by
          have h1 : At w16 (fun _ => False) (([(b29, ET.f last)] ++ ro) ++ [(b61, ES.f xi)]) w62 := by
            refine hA62.sub (m' := ([(b29, ET.f last)] ++ ro) ++ [(b61, ES.f xi)]) ?_
            exact List.Sublist.append_right (List.sublist_append_left _ _) _
          exact h1.perm (perm_tail3 _ _ _)
        have hx62 : RdS w62 ES ⟨some (b61, 0), 1, 1⟩ [xi] := rd_one (hA62'.own (b61, ES.f xi) (by simp))
        refine hA62'.app hv hx62 rfl rfl (by simp; omega) fun br' ro' w64' hA64 hv64 _ => ?_
        rw [set_step (by omega)]
        refine ⟨⟨i + 1, ro', rfl, hlt', hA64.sub (List.Sublist.append_right (List.sublist_append_left _ _) _), ?_⟩, by simp; omega⟩
        rw [List.take_add_one, hxi']; exact hv64
    · have hge : i = zs.length := by rw [hal] at hlt; simp at hlt; omega
      subst hge
      rw [← hxl, List.take_length] at hv
      exact hk _ _ ⟨ro, hA, hv⟩
  rintro br w66 ⟨ro, hA66, hv66⟩
  have hTsl : (Ts.set wi (L.take m)).length = xs.length := by simp [xs, hT.src.len]
  have hS66 : SrcsAt w66 br xs (Ts.set wi (L.take m)) := by
    refine ⟨(VecE.of_at hA66 hv66).rd, hTsl, fun i x L' h1 h2 => ?_⟩
    have hil : i < zs.length := by have := (List.getElem?_eq_some_iff.1 h1).1; omega
    by_cases e : i = wi
    · subst e
      rw [hxw] at h1; cases h1
      rw [List.getElem?_set_self (by rw [hT.src.len]; exact hil)] at h2; cases h2
      obtain ⟨c1, c2⟩ := hLw.cut hm 2
      exact ⟨c1.keep hA66.mod fun _ _ => id, fun b hb => Nat.lt_of_lt_of_le ((hT16.src.each i _ L hzi hTi).2 b (c2 b hb)) hA66.mod.size⟩
    · rw [hxi i hil e] at h1; cases h1
      rw [List.getElem?_set_ne (fun h => e h.symm)] at h2
      exact (hT16.src.keep hA66.mod).each i _ _ (List.getElem?_eq_getElem hil) h2
  have hEQ : EQ xs = enW wi := by
    funext i
    unfold EQ enW upd
    by_cases e : i = wi
    · subst e; rw [hxw, if_pos rfl]; rfl
    · rw [if_neg e]
      by_cases hil : i < zs.length
      · rw [hxi i hil e]; exact hT.zero _ (List.getElem_mem hil)
      · rw [List.getElem?_eq_none (by omega)]; rfl
  have hLQ : LQ (Ts.set wi (L.take m)) = brk (LQ Ts) wi m := by
    funext i
    unfold brk upd
    by_cases e : i = wi
    · subst e; unfold LQ at hLe ⊢; rw [if_pos rfl, List.getElem?_set_self (by rw [hT.src.len]; exact hwi), hLe]; rfl
    · unfold LQ; rw [if_neg e, List.getElem?_set_ne (fun h => e h.symm)]
  have hbl : remQ (brk (LQ Ts) wi m) zs.length ≤ remQ (LQ Ts) zs.length := by
    have : ∀ k, remQ (brk (LQ Ts) wi m) k ≤ remQ (LQ Ts) k := by
      intro k
      induction k with
      | zero => exact Nat.le_refl _
      | succ k ih =>
        rw [remQ, remQ]
        have : (brk (LQ Ts) wi m k).length ≤ (LQ Ts k).length := by
          unfold brk upd
          split
          · rename_i e; subst e; rw [List.length_take]; omega
          · exact Nat.le_refl _
        omega
    exact this _
  refine feedrun_ok hS66 (by omega) (by rw [hLQ, hxl]; omega) fun a69 w72 hout2 _ M3 => ?_
  have hlen2 := (runM_sorted hT.sorted)
  rw [hEQ, hLQ, hxl] at hout2 ⊢
  rw [hT.en] at hout1 
  have hM72 : Mod (fun _ => False) w16 w72 := m0 hA66.mod M3
  have hMw : Mod (fun _ => False) w w72 := m0 (m0 M1 M2) hM72
  have hout1 := hout1.keep hM72 fun _ _ => id
  have hb29 : Blk w72 b29 (ET.f last) := M3.blk (hA66.own (b29, ET.f last) (by simp)) id
  have he77 : (runM zs.length (enW wi) (brk (LQ Ts) wi m)).2 = 77 := by
    by_cases h : m = 0
    · subst h; rw [runM_brk0 hwi]
    · exact (runM_brk hwi (by omega) (by rw [hLe]; exact hm) hT.sorted).1
  rw [he77]
  refine join1 (a := .bool) (fun b w' => w' = w72 ∧ b = false) (fun k hk => ifK_f rfl (ifK_f rfl (hk _ _ ⟨rfl, rfl⟩))) ?_
  rintro _ w75 ⟨hw75, rfl⟩
  rw [hw75]
  refine ifK_f rfl (ifK_intro (fun h => ?_) fun h => ?_)
  · have hm0 : m = 0 := by have : (m : Int) = 0 := by simpa using h
                           omega
    subst hm0
    rw [runM_brk0 hwi] at hout2
    refine join1 (a := .bool) (fun b w' => b = true ∧ Mod (fun _ => False) w72 w') (fun k hk => ifK_t (by rw [hout2.len]; rfl) (head_ok fun w' M => hk _ _ ⟨rfl, M⟩)) ?_
    rintro _ w' ⟨rfl, M⟩
    exact hK _ (m0 hMw M)
  · have hm0 : 0 < m := by have : ¬ (m : Int) = 0 := by simpa using h
                           omega
    obtain ⟨_, out, tail, e1, e2, hpos, hlst⟩ := runM_brk hwi hm0 (by rw [hLe]; exact hm) hT.sorted
    rw [e1] at hout2
    rw [e2] at hout1
    have hwl : (out ++ tail).length ≤ 1048000 := by rw [← e2, hlen2.2.2.length_eq, cat_length]; exact hrem
    have hol : out.length ≤ (out ++ tail).length := by simp
    refine join0 (fun w' => Mod (fun _ => False) w72 w') (fun k hk => ?_) ?_
    · refine loop1 (k := .int .i64) (fun x w' => ∃ i : Nat, x = i ∧ i ≤ out.length ∧ Mod (fun _ => False) w72 w') (fun x _ => out.length - x.toNat) rfl ⟨0, rfl, Nat.zero_le _, Mod.refl _ _⟩ ?_
      rintro x w84 ⟨i, rfl, hi, hM⟩
      refine ifK_intro (fun hlt => ?_) (fun hlt => hk _ hM)
      have hlt' : i < out.length := by rw [hout2.len] at hlt; simpa using hlt
      have hM' : Mod (fun _ => False) w72 w84.drew := m0 hM (Mod.drew _ _)
      refine join1 (a := .bool) (fun b w' => b = false ∧ Mod (fun _ => False) w72 w') (fun k2 hk2 => ?_) ?_
      · refine ⟨fun _ => False, ?_⟩
        refine ifK_f (by rw [hout1.len]; simp; omega) ?_
        refine (hout2.keep hM' fun _ _ => id).ix rfl rfl (List.getElem?_eq_getElem hlt') fun b o _ hc => ?_
        refine ldD_cell (k := .int .i64) out[i].1 id (hc 0 (by decide)) (ldD_cell (k := .int .i64) out[i].2 id (hc 1 (by decide)) ?_)
        refine (hout1.keep hM' fun _ _ => id).ix rfl rfl (k := i) (x := out[i]) (by rw [List.getElem?_append_left hlt', List.getElem?_eq_getElem hlt']) fun b o _ hc => ?_
        refine ldD_cell (k := .int .i64) out[i].1 id (hc 0 (by decide)) (ldD_cell (k := .int .i64) out[i].2 id (hc 1 (by decide)) ?_)
        exact neq_thing ⟨Mod.refl _ _, hk2 _ _ ⟨by simp, hM'⟩⟩
      · rintro _ w98 ⟨rfl, hM98⟩
        refine ifK_f rfl ?_
        rw [set_step (by omega)]
        exact ⟨⟨i + 1, rfl, hlt', hM98⟩, by simp; omega⟩
    · intro w99 hM99
      have hM' : Mod (fun _ => False) w72 w99.drew := m0 hM99 (Mod.drew _ _)
      refine join1 (a := .bool) (fun b w' => b = true ∧ Mod (fun _ => False) w72 w') (fun k hk => ?_) ?_
      · refine ⟨fun _ => False, ?_⟩
        have hl0 : out[out.length - 1]? = some last := by rw [hlst, hLe]; exact hlast hm0
        refine ifK_t (by rw [hout2.len]; simpa using hpos) ?_
        refine (hout2.keep hM' fun _ _ => id).ix rfl (by rw [hout2.len, w64_in (by omega) (by omega)]; omega : w64 ((a69.len : Int) - 1) = ((out.length - 1 : Nat) : Int)) hl0 fun b o _ hc => ?_
        refine ldD_cell (k := .int .i64) last.1 id (hc 0 (by decide)) (ldD_cell (k := .int .i64) last.2 id (hc 1 (by decide)) ?_)
        have hb' := hM'.blk hb29 id
        refine ldD_cell (k := .int .i64) last.1 id (hb'.cell 0) (ldD_cell (k := .int .i64) last.2 id (hb'.cell 1) ?_)
        refine eq_thing ⟨Mod.refl _ _, ifK_t (by simp) (head_ok fun w' M => ⟨M, hk _ _ ⟨rfl, m0 hM' M⟩⟩)⟩
      · rintro _ w' ⟨rfl, M⟩
        exact hK _ (m0 hMw M)
end Go.Proofs.Ytfhojgammfkabaa
