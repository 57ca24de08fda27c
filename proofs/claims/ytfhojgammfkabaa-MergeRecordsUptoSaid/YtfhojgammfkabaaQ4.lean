/- Sources are made tidy. -/
import Derived.Test.YtfhojgammfkabaaQ3
namespace Go.Proofs.Ytfhojgammfkabaa
open Go.Vw

theorem tidyM_get : ∀ (Ls : List (List Thing)) (n i : Nat), (tidyM n Ls)[i]? = Ls[i]?.map fun L => nameT (n + lens Ls i) (sortT L)
  | [], n, i => by simp [tidyM]
  | L :: r, n, 0 => by simp [tidyM, lens]
  | L :: r, n, i + 1 => by
    rw [tidyM, List.getElem?_cons_succ, tidyM_get r, List.getElem?_cons_succ]
    have : ∀ i, lens (L :: r) (i + 1) = L.length + lens r i := by
      intro i
      induction i with
      | zero => simp [lens]
      | succ i ih => rw [lens, ih, lens, List.getElem?_cons_succ]; omega
    rw [this]
    congr 1; funext L'; congr 1; omega
/-- the sources behind one that has been made tidy -/
theorem tidy_ok {w0 : World} {fr : Sl} {ys : List (Sl × Int)} {Ls : List (List Thing)} (hf : RdS w0 ES fr ys) (hlen : Ls.length = ys.length) (hLs : ∀ (i : Nat) y L, ys[i]? = some y → Ls[i]? = some L → RdS w0 ET y.1 L) (hb : lens Ls Ls.length ≤ 1048000) (hb2 : ys.length ≤ 1048576)
    {K : Sl → World → Prop} (hK : ∀ out w' (zs : List (Sl × Int)), RdS w' ES out zs → zs.length = min 64 ys.length → (∀ (i : Nat) z, zs[i]? = some z → z.2 = 0 ∧ ∃ L, (tidyM 0 Ls)[i]? = some L ∧ RdS w' ET z.1 L ∧ ∀ b, bk z.1 b → b < w'.heap.size) → Mod (fun _ => False) w0 w' → K out w') :
    callK Try.prog 18 [.leaf (.sl fr)] w0 (.one (.leaf .sl)) K := by
  refine go_winnowlaw11_tidy _ _ _ ?_
  unfold S_winnowlaw11_tidy
  have hy : ∀ i (hi : i < ys.length), ys[i]? = some ys[i] := fun i hi => List.getElem?_eq_getElem hi
  have hL : ∀ i, i < ys.length → Ls[i]? = some (Ls[i]?.getD []) := fun i hi => by rw [List.getElem?_eq_getElem (by omega)]; rfl
  have hle : ∀ i, i ≤ ys.length → lens Ls i ≤ 1048000 := fun i hi => by have := lens_mono Ls (i := i) (j := Ls.length) (by omega); omega
  let Inv (i : Nat) (out : Sl) (w' : World) : Prop := ∃ (m ro : List (Nat × List Value)) (zs : List (Sl × Int)), At w0 (fun _ => False) (m ++ ro) w' ∧ VecE ro ES out zs ∧ zs.length = i ∧
    ∀ (j : Nat) z, zs[j]? = some z → z.2 = 0 ∧ RdIn m ET z.1 (nameT (lens Ls j) (sortT (Ls[j]?.getD []))) ∧ ∀ b, bk z.1 b → ∃ q ∈ m, q.1 = b
  refine join1 (a := .sl) (fun out w' => Inv (min 64 ys.length) out w') (fun k hk => ?_) ?_
  · refine loop3 (k1 := .sl) (k2 := .int .i64) (k3 := .int .i64) (fun out nm x w' => ∃ i : Nat, x = i ∧ i ≤ min 64 ys.length ∧ nm = (lens Ls i : Nat) ∧ Inv i out w') (fun _ _ x _ => 64 - x.toNat) rfl rfl rfl
      ⟨0, rfl, by omega, rfl, [], [], [], At.init _ _, VecE.nil _, rfl, fun j z h => by simp at h⟩ ?_
    rintro out nm x w1 ⟨i, rfl, hi, rfl, m, ro, zs, hA, hv, hzl, hz⟩
    refine join1 (a := .bool) (fun b w' => w' = w1 ∧ b = decide (i < ys.length ∧ i < 64)) (fun k2 hk2 => ?_) ?_
    · refine ifK_intro (fun h => hk2 _ _ ⟨rfl, ?_⟩) (fun h => hk2 _ _ ⟨rfl, ?_⟩)
      · rw [hf.len] at h
        have : i < ys.length := by simpa using h
        have e : decide ((i : Int) < 64) = decide (i < ys.length ∧ i < 64) := decide_eq_decide.2 ⟨fun h => ⟨this, by omega⟩, fun h => by omega⟩
        exact e
      · rw [hf.len] at h
        have : ¬ i < ys.length := by simpa using h
        simp [this]
    · rintro b w2 ⟨hw2, rfl⟩
      rw [hw2]
      refine ifK_intro (fun ht => ?_) (fun ht => ?_)
      · obtain ⟨hiy, hi64⟩ : i < ys.length ∧ i < 64 := by simpa using ht
        have hLi := hL i hiy
        generalize hLe : Ls[i]?.getD [] = L at hLi
        have hlenL : lens Ls (i + 1) = lens Ls i + L.length := by rw [lens, hLe]
        have hbi := hle (i + 1) hiy
        have hrL := hLs i _ _ (hy i hiy) hLi
        refine join1 (a := .sl) (fun l w' => ∃ rl, At w0 (fun _ => False) ((m ++ ro) ++ rl) w' ∧ VecE rl ET l (sortT L)) (fun k3 hk3 => ?_) ?_
        · refine loop2 (k1 := .sl) (k2 := .int .i64) (fun l x w' => ∃ (c : Nat) (rl : List (Nat × List Value)), x = c ∧ c ≤ L.length ∧ At w0 (fun _ => False) ((m ++ ro) ++ rl) w' ∧ VecE rl ET l ((L.take c).foldl insT [])) (fun _ x _ => L.length - x.toNat) rfl rfl ⟨0, [], rfl, by omega, by rw [List.append_nil]; exact hA, VecE.nil _⟩ ?_
          rintro l x w3 ⟨c, rl, rfl, hc, hA3, hv3⟩
          generalize hts : (L.take c).foldl insT [] = ts at hv3
          have htl : ts.length = c := by rw [← hts, foldl_ins_length]; simp; omega
          have hf3 := hf.keep hA3.mod fun _ _ => id
          have hrL3 := hrL.keep hA3.mod fun _ _ => id
          refine hf3.ix rfl rfl (hy i hiy) fun b o _ hcell => ld_cell (k := .sl) ys[i].1 (hcell 0 (by decide)) ?_
          refine ifK_intro (fun hclt => ?_) (fun hclt => ?_)
          · have hclt' : c < L.length := by rw [hrL3.len] at hclt; simpa using hclt
            have hxc : L[c]? = some L[c] := List.getElem?_eq_getElem hclt'
            refine join1 (a := .int .i64) (fun x w' => x = (insP ts L[c] ts.length : Nat) ∧ At w0 (fun _ => False) ((m ++ ro) ++ rl) w') (fun k4 hk4 => ?_) ?_
            · refine loop1 (k := .int .i64) (fun x w' => ∃ n : Nat, x = n ∧ n ≤ ts.length ∧ insP ts L[c] n = insP ts L[c] ts.length ∧ At w0 (fun _ => False) ((m ++ ro) ++ rl) w') (fun x _ => x.toNat) (x := ((ts.length : Nat) : Int)) (by rw [hv3.1]; rfl) ⟨ts.length, rfl, Nat.le_refl _, rfl, hA3⟩ ?_
              rintro x w4 ⟨n, rfl, hn, hins, hA4⟩
              refine join1 (a := .bool) (fun b w' => At w0 (fun _ => False) ((m ++ ro) ++ rl) w' ∧ b = decide (0 < n ∧ L[c].1 < (getT ts (n - 1)).1)) (fun k5 hk5 => ?_) ?_
              · refine ⟨fun _ => False, ?_⟩
                have hA5 := hA4.drew
                refine ifK_intro (fun h0 => ?_) (fun h0 => hk5 _ _ ⟨hA5, ?_⟩)
                · have h0' : 0 < n := by simpa using h0
                  have e1 : w64 ((n : Int) - 1) = ((n - 1 : Nat) : Int) := by rw [w64_in (by omega) (by omega)]; omega
                  rw [e1]
                  refine rdT (VecE.of_at hA5 hv3).rd (getT_at (by omega)) fun b o c1 _ => ldD_cell _ id c1 ?_
                  refine (hf.keep hA5.mod fun _ _ => id).ix rfl rfl (hy i hiy) fun b o _ hcell => ldD_cell (k := .sl) ys[i].1 id (hcell 0 (by decide)) ?_
                  refine rdT (hrL.keep hA5.mod fun _ _ => id) hxc fun b o d1 _ => ldD_cell _ id d1 (hk5 _ _ ⟨hA5, ?_⟩)
                  simp [h0']
                · have h0' : ¬ 0 < n := by simpa using h0
                  simp [h0']
              · rintro b w5 ⟨hA5, rfl⟩
                refine ifK_intro (fun ht => ?_) (fun ht => hk4 _ _ ⟨?_, hA5⟩)
                · obtain ⟨h0, hlt⟩ : 0 < n ∧ L[c].1 < (getT ts (n - 1)).1 := by simpa using ht
                  have e1 : w64 ((n : Int) - 1) = ((n - 1 : Nat) : Int) := by rw [w64_in (by omega) (by omega)]; omega
                  rw [e1]
                  obtain ⟨n', rfl⟩ : ∃ n', n = n' + 1 := ⟨n - 1, by omega⟩
                  rw [insP, if_pos (by simpa using hlt)] at hins
                  exact ⟨⟨n', by simp, by omega, hins, hA5⟩, by simp⟩
                · congr 1
                  rw [← hins]
                  cases n with
                  | zero => rfl
                  | succ n' =>
                    have : ¬ L[c].1 < (getT ts n').1 := by simpa using ht
                    rw [insP, if_neg this]
            · rintro _ w4 ⟨rfl, hA4⟩
              refine ins_ok hA4 hv3 (by omega) (x := L[c]) (insP_le ts L[c] ts.length) (K := fun l' w' => (∃ (c' : Nat) (rl : List (Nat × List Value)), w64 ((c : Int) + 1) = (c' : Int) ∧ c' ≤ L.length ∧ At w0 (fun _ => False) ((m ++ ro) ++ rl) w' ∧ VecE rl ET l' ((L.take c').foldl insT [])) ∧ L.length - (w64 ((c : Int) + 1)).toNat < L.length - ((c : Nat) : Int).toNat) (fun a39 w5 M5 hgo => ?_) fun l' rl' w5 hA5 hv5 => ?_
              · refine (hf.keep M5 fun _ _ => id).ix rfl rfl (hy i hiy) fun b o _ hcell => ld_cell (k := .sl) ys[i].1 (hcell 0 (by decide)) ?_
                exact rdT (hrL.keep M5 fun _ _ => id) hxc fun b o d1 d2 => ld_cell _ d1 (ld_cell _ d2 hgo)
              · refine ⟨⟨c + 1, rl', set_step (by omega), hclt', hA5, ?_⟩, by rw [set_step (by omega)]; simp; omega⟩
                rw [List.take_add_one, hxc]
                simp only [Option.toList_some, List.foldl_append, List.foldl_cons, List.foldl_nil, hts]
                exact hv5
          · have hge : c = L.length := by rw [hrL3.len] at hclt; simp at hclt; omega
            subst hge
            rw [List.take_length] at hts
            refine hk3 _ _ ⟨rl, hA3, ?_⟩
            rw [← hts] at hv3; exact hv3
        · rintro l w3 ⟨rl, hA3, hv3⟩
          have hsl := sortT_length L
          refine join1 (a := .int .i64) (fun x w' => x = (lens Ls (i + 1) : Nat) ∧ ∃ rl', At w0 (fun _ => False) ((m ++ ro) ++ rl') w' ∧ VecE rl' ET l (nameT (lens Ls i) (sortT L))) (fun k4 hk4 => ?_) ?_
          · refine name_ok hA3 hv3 (by omega) (by omega) fun rl' w4 hA4 hv4 => hk4 _ _ ⟨by rw [hlenL, hsl], rl', hA4, hv4⟩
          · rintro _ w4 ⟨rfl, rl', hA4, hv4⟩
            refine hA4.alK fun b67 w5 _ hA5 _ => ?_
            have hA5' : At w0 (fun _ => False) (((m ++ rl') ++ [(b67, ES.f (l, 0))]) ++ ro) w5 := by
              refine hA5.perm ?_
              have h1 : ((m ++ rl') ++ [(b67, ES.f (l, 0))]) ++ ro = (m ++ (rl' ++ [(b67, ES.f (l, 0))])) ++ ro := by simp
              have h2 : ((m ++ ro) ++ rl') ++ [(b67, List.map LV.toV [.sl l, .int .i64 0])] = (m ++ ro) ++ (rl' ++ [(b67, ES.f (l, 0))]) := by rw [List.append_assoc]; rfl
              rw [h1, h2]
              exact perm_tail3 _ _ _
            have hx5 : RdS w5 ES ⟨some (b67, 0), 1, 1⟩ [(l, 0)] := rd_one (hA5'.own (b67, ES.f (l, 0)) (by simp))
            refine hA5'.app hv hx5 rfl rfl (by simp; omega) fun out' ro' w6 hA6 hv6 _ => ?_
            rw [set_step (by omega)]
            have hA6' : At w0 (fun _ => False) ((m ++ rl') ++ ro') w6 := hA6.sub (List.Sublist.append_right (List.sublist_append_left _ _) _)
            refine ⟨⟨i + 1, rfl, by omega, rfl, m ++ rl', ro', zs ++ [(l, 0)], hA6', hv6, by simp [hzl], fun j z hj => ?_⟩, by simp; omega⟩
            rw [List.getElem?_append] at hj
            split at hj
            · obtain ⟨z1, z2, z3⟩ := hz j z hj
              exact ⟨z1, z2.mono fun p hp => List.mem_append_left _ hp, fun b hb => by obtain ⟨q, hq, e⟩ := z3 b hb; exact ⟨q, List.mem_append_left _ hq, e⟩⟩
            · have hji : j = i := by have := (List.getElem?_eq_some_iff.1 hj).1; simp at this; omega
              subst hji
              rw [hzl] at hj; simp at hj; subst hj
              rw [hLe]
              refine ⟨rfl, ⟨hv4.1, ?_, (VecE.of_at hA4 hv4).rd.has⟩, fun b hb => ?_⟩
              · rcases hv4.2 with ⟨_, _, _, hnil⟩ | ⟨b, rest, h1, h2, _⟩
                · exact .inl hnil
                · exact .inr ⟨b, rest, h2, List.mem_append_right _ (by rw [h1]; simp)⟩
              · obtain ⟨q, hq, e⟩ := hv4.key hb
                exact ⟨q, List.mem_append_right _ hq, e⟩
      · have hge : i = min 64 ys.length := by
          have : ¬ (i < ys.length ∧ i < 64) := by simpa using ht
          omega
        subst hge
        exact hk _ _ ⟨m, ro, zs, hA, hv, hzl, hz⟩
  · rintro out w1 ⟨m, ro, zs, hA, hv, hzl, hz⟩
    refine hK out w1 zs (VecE.of_at hA hv).rd hzl (fun i z hi => ?_) hA.mod
    obtain ⟨z1, z2, z3⟩ := hz i z hi
    have hil : i < zs.length := (List.getElem?_eq_some_iff.1 hi).1
    have hAm := hA.sub (List.sublist_append_left m ro)
    refine ⟨z1, _, ?_, z2.rd hAm, fun b hb => ?_⟩
    · rw [tidyM_get, hL i (by omega)]; simp
    · obtain ⟨q, hq, e⟩ := z3 b hb
      rw [← e]; exact (hAm.own q hq).lt
end Go.Proofs.Ytfhojgammfkabaa
