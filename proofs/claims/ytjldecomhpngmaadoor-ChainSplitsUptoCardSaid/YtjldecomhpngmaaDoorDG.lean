/- The document's Splits. -/
import Derived.Test.YtjldecomhpngmaaDoorDF
namespace Go.Proofs.YtjldecomhpngmaaDoor
open Go.Vw

theorem conv_ok {w : World} {s : Sl} {t : Str} (hr : RdS w ET s t) (ht : t ≠ []) {K : Str → World → Prop} (hK : K t w) : opF Tryd.prog (vS (convert 36 9 (LV.toV (.sl s)))) w (.one (.leaf .str)) K := by
  have hpos : 0 < t.length := by
    rcases Nat.eq_zero_or_pos t.length with h | h
    · exact absurd (List.eq_nil_of_length_eq_zero h) ht
    · exact h
  obtain ⟨b, o, hp, hlt, _⟩ := hr.at (i := 0) (List.getElem?_eq_getElem hpos)
  have hcap := hr.has
  have hx : (⟨t.toArray⟩ : ByteArray).size = t.length := by simp [ByteArray.size]
  have hv : (LV.sl s).toV = .slice (some ⟨b, o, none⟩) (⟨t.toArray⟩ : ByteArray).size s.cap := by
    show Value.slice (slA s.cap s.p) s.len s.cap = _
    have hsa : slA s.cap s.p = some ⟨b, o, none⟩ := by
      rw [hp]; show some (if s.cap = 0 then decA b o else ⟨b, o, none⟩) = _; rw [if_neg (by omega)]
    rw [hsa, hx, hr.len]
  have hby : Go.Lib.Bytes w b o ⟨t.toArray⟩ := by
    intro i hi
    rw [hx] at hi
    obtain ⟨b', o', hp', _, hc⟩ := hr.at (i := i) (List.getElem?_eq_getElem hi)
    rw [hp] at hp'
    cases hp'
    have h1 := hc 0 (by decide)
    have e : o + i * ET.n + 0 = o + i := by show o + i * 1 + 0 = o + i; omega
    rw [e] at h1
    exact h1
  have hrun := Go.Lib.run_convert_whole (P := Tryd.prog) w 36 5 9 Tryd.underlying36 Tryd.underlying5 Tryd.underlying9 b o ⟨t.toArray⟩ hby s.cap
  rw [hv]
  refine ⟨[.str t], w, ?_, hK⟩
  unfold vS
  simp only [Sem.run_bind, hrun, Result.andThen]
  rfl
theorem line_step {T : Str} {x : Nat} (hx : x < T.length) : lineLen (T.drop x) = if T[x] == 10 then 1 else lineLen (T.drop (x + 1)) + 1 := by
  rw [List.drop_eq_getElem_cons hx]
  rfl
theorem take_flat_le (l : List Str) (j : Nat) : (l.take j).flatten.length ≤ l.flatten.length := by
  conv => rhs; rw [← List.take_append_drop j l, List.flatten_append, List.length_append]
  exact Nat.le_add_right _ _
theorem take_flat_succ {l : List Str} {j : Nat} {x : Str} (hx : l[j]? = some x) : (l.take (j + 1)).flatten = (l.take j).flatten ++ x := by
  rw [List.take_add_one, hx]; simp
theorem refsplits_ok {w0 w : World} {D : Nat → Prop} {m : BL} (hA : At w0 D m w) {s : Sl} {l : List Str} (hr : RdS w EStr s l) (hl : l.length ≤ 1048576) (hT : l.flatten.length ≤ 1048576) {K : Sl → Int → World → Prop}
    (hK : ∀ t ro w', At w0 D (m ++ ro) w' → VecL ro ESs t (ansL l.flatten) → K t (ansC l.flatten) w') : callK Tryd.prog 6 [.leaf (.sl s)] w (.tup [.leaf .sl, .leaf (.int .i64)]) K := by
  refine go_winnowref24_Splits _ _ _ ?_
  refine join0 (fun u => u = w) ?_ ?_
  · intro k2 hk2
    refine loop2 (k1 := .int .i64) (k2 := .int .i64) (fun (z : Int) (i : Int) u => u = w ∧ ∃ j : Nat, i = j ∧ j ≤ l.length ∧ z = (((l.take j).flatten.length : Nat) : Int)) (fun _ i _ => (l.length - i).toNat) (x1 := 0) (x2 := 0) rfl rfl ⟨rfl, 0, rfl, Nat.zero_le _, by simp⟩ ?_
    rintro z i u ⟨rfl, j, rfl, hj, rfl⟩
    rw [hr.len]
    refine ifK_intro (fun h => ?_) fun _ => hk2 _ rfl
    have hlt : j < l.length := dlt h
    have hx : l[j]? = some l[j] := List.getElem?_eq_getElem hlt
    generalize l[j] = x at hx
    have h1 := take_flat_le l (j + 1)
    rw [take_flat_succ hx, List.length_append] at h1
    have e : w64 ((((l.take j).flatten.length : Nat) : Int) + (x.length : Int)) = (((l.take (j + 1)).flatten.length : Nat) : Int) := by
      rw [take_flat_succ hx, List.length_append, w64_in (by omega) (by omega)]; push_cast; rfl
    refine hr.ix rfl rfl hx fun b o _ hc => ld_cell (k := .str) x (hc 0 (by decide)) ?_
    rw [e]
    have h2 := take_flat_le l (j + 1)
    exact ifK_f (by rw [decide_eq_false_iff_not]; omega) ⟨⟨rfl, j + 1, step64 (by omega), by omega, rfl⟩, by rw [step64 (by omega)]; omega⟩
  rintro u rfl
  refine join1 (a := .sl) (fun (t : Sl) v => Own u v t l.flatten ∧ Mod F0 u v) ?_ ?_
  · intro k11 hk11
    refine loop2 (k1 := .sl) (k2 := .int .i64) (fun (t : Sl) (i : Int) v => Mod F0 u v ∧ ∃ j : Nat, i = j ∧ j ≤ l.length ∧ Own u v t (l.take j).flatten) (fun _ i _ => (l.length - i).toNat) (x1 := ⟨none, 0, 0⟩) (x2 := 0) rfl rfl ⟨Mod.refl _ _, 0, rfl, Nat.zero_le _, by simpa using own_nil u⟩ ?_
    rintro t i v ⟨hM, j, rfl, hj, ho⟩
    rw [hr.len]
    refine ifK_intro (fun h => ?_) fun h => ?_
    · have hlt : j < l.length := dlt h
      have hx : l[j]? = some l[j] := List.getElem?_eq_getElem hlt
      generalize l[j] = x at hx
      have h1 := take_flat_le l (j + 1)
      rw [take_flat_succ hx, List.length_append] at h1
      refine (hr.keep hM fun _ _ => id).ix rfl rfl hx fun b o _ hc => ld_cell (k := .str) x (hc 0 (by decide)) ?_
      refine app_str ho hM (by omega) fun t' v' ho' hM' => ⟨⟨hM', j + 1, step64 (by omega), by omega, by rw [take_flat_succ hx]; exact ho'⟩, by rw [step64 (by omega)]; omega⟩
    · have hge : l.length ≤ j := dge h
      rw [List.take_of_length_le hge] at ho
      exact hk11 _ _ ⟨ho, hM⟩
  rintro tx v ⟨ho, hM⟩
  obtain ⟨tb, hAt, hvt⟩ := own_at hA ho hM
  generalize hTT : l.flatten = T at hT hK hvt
  clear ho
  have htl : tx.len = T.length := hvt.1
  have rdT : ∀ {ro : BL} {u : World}, At w0 D ((m ++ tb) ++ ro) u → RdS u ET tx T := fun hA => hvt.rd fun p hp => hA.own p (by simp [hp])
  have bad : ∀ {ro : BL} {u : World}, At w0 D ((m ++ tb) ++ ro) u → ansS T = none → K ⟨none, 0, 0⟩ 2 u := fun {ro u} hu h => by
    obtain ⟨e1, e2⟩ := ans_none h
    rw [e1, e2] at hK
    exact hK _ [] u (by rw [List.append_nil]; exact hu.sub ((List.sublist_append_left m tb).trans (List.sublist_append_left _ _))) (VecL.nil ESs)
  let I : Sl → Int → World → Prop := fun t f u => ∃ (fr : Nat) (ro : BL) (L : List (Nat × Nat)), f = fr ∧ fr ≤ T.length ∧ L.length ≤ 256 ∧ At w0 D ((m ++ tb) ++ ro) u ∧ VecL ro ESs t (L.map (sp T)) ∧ rfS T 0 = (rfS T fr).map (L ++ ·)
  refine join1 (a := .sl) (fun (t : Sl) u => I t (T.length : Int) u) ?_ ?_
  rotate_left
  · rintro t u ⟨fr, ro, L, hf, h1, h2, hAu, hv, hp⟩
    have hf : fr = T.length := by omega
    have hpr : rfS T 0 = some L := by rw [hp]; conv => lhs; unfold rfS
                                      rw [dif_neg (by omega)]; simp
    obtain ⟨e1, e2⟩ := ans_some (T := T) (l := L) (by unfold ansS; rw [hpr]; simp only; rw [if_neg (by omega)])
    rw [e1, e2] at hK
    have hAu' : At w0 D (m ++ ro) u := hAu.sub ((List.sublist_append_left m tb).append (List.Sublist.refl _))
    exact hK t ro u hAu' hv
  intro k23 hk23
  refine loop2 (k1 := .sl) (k2 := .int .i64) I (fun _ f _ => (T.length - f).toNat) (x1 := ⟨none, 0, 0⟩) (x2 := 0) rfl rfl ⟨0, [], [], rfl, Nat.zero_le _, Nat.zero_le _, by rw [List.append_nil]; exact hAt, VecL.nil ESs, by cases rfS T 0 <;> rfl⟩ ?_
  rintro t f u5 ⟨fr, ro, L, rfl, h1, h2, hAu, hv, hp⟩
  rw [htl]
  refine ifK_intro (fun h => ?_) fun h => ?_
  rotate_left
  · have hge : T.length ≤ fr := dge h
    refine hk23 _ _ ⟨fr, ro, L, by omega, h1, h2, hAu, hv, hp⟩
  have hlt : fr < T.length := dlt h
  have hpr := hp
  conv at hpr => rhs; unfold rfS
  rw [dif_pos hlt] at hpr
  have hrd := rdT hAu
  refine join1 (a := .int .i64) (fun (e : Int) v' => e = ((inR T fr fr : Nat) : Int) ∧ v' = u5) ?_ ?_
  · intro k28 hk28
    refine loop1 (k := .int .i64) (fun (z : Int) v' => v' = u5 ∧ ∃ e : Nat, z = e ∧ fr ≤ e ∧ e ≤ T.length ∧ inR T fr fr = inR T fr e) (fun z _ => (T.length - z).toNat) (x := (fr : Int)) rfl ⟨rfl, fr, rfl, Nat.le_refl _, h1, rfl⟩ ?_
    rintro z v' ⟨rfl, e, rfl, g1, g2, g3⟩
    refine join1 (a := .int .i64) (fun (x : Int) v'' => v'' = v' ∧ ∃ y : Nat, x = y ∧ e ≤ y ∧ y ≤ T.length ∧ lineLen (T.drop e) = (y - e) + lineLen (T.drop y) ∧ (∀ hy : y < T.length, T[y] = 10)) ?_ ?_
    · intro k32 hk32
      refine loop1 (k := .int .i64) (fun (x : Int) v'' => v'' = v' ∧ ∃ y : Nat, x = y ∧ e ≤ y ∧ y ≤ T.length ∧ lineLen (T.drop e) = (y - e) + lineLen (T.drop y)) (fun x _ => (T.length - x).toNat) (x := (e : Int)) rfl ⟨rfl, e, rfl, Nat.le_refl _, g2, by omega⟩ ?_
      rintro x v'' ⟨rfl, y, rfl, q1, q2, q3⟩
      refine join1 (fun c v3 => v3 = v'' ∧ (c = true → ∃ hy : y < T.length, T[y] ≠ 10) ∧ (c = false → ∀ hy : y < T.length, T[y] = 10)) ?_ ?_
      · intro k36 hk36
        refine ifK_intro (fun h => ?_) fun h => ?_
        · have hy : y < T.length := dlt h
          refine hrd.ix rfl rfl (List.getElem?_eq_getElem hy) fun b o _ hc => ld_cell (k := .int .u8) ((T[y].toNat : Nat) : Int) (hc 0 (by decide)) ?_
          refine hk36 _ _ ⟨rfl, fun hc => ⟨hy, fun e10 => ?_⟩, fun hc _ => ?_⟩
          · rw [e10] at hc; exact absurd hc (by decide)
          · have : (((T[y].toNat : Nat) : Int)) = 10 := by simpa using hc
            have : T[y].toNat = 10 := by omega
            exact UInt8.toNat_inj.1 this
        · have hy : T.length ≤ y := dge h
          exact hk36 _ _ ⟨rfl, fun hc => (by cases hc), fun _ hy' => absurd hy' (by omega)⟩
      rintro c v3 ⟨rfl, c1, c2⟩
      refine ifK_intro (fun hc => ?_) fun hc => hk32 _ _ ⟨rfl, y, rfl, q1, q2, q3, c2 hc⟩
      obtain ⟨hy, hne⟩ := c1 hc
      have hst := line_step hy
      rw [if_neg (by simpa using hne)] at hst
      exact ⟨⟨rfl, y + 1, step64 (by omega), by omega, by omega, by omega⟩, by rw [step64 (by omega)]; omega⟩
    rintro x v'' ⟨rfl, y, rfl, q1, q2, q3, q4⟩
    have hnx : (y < T.length → nx T e = y + 1) ∧ (¬ y < T.length → nx T e = y) := by
      refine ⟨fun hy => ?_, fun hy => ?_⟩
      · have hst := line_step hy
        rw [if_pos (by rw [q4 hy]; rfl)] at hst
        unfold nx; omega
      · have : T.drop y = [] := List.drop_eq_nil_of_le (by omega)
        rw [this] at q3
        have : lineLen ([] : Str) = 0 := rfl
        unfold nx; omega
    refine join1 (a := .int .i64) (fun (x : Int) v3 => x = ((nx T e : Nat) : Int) ∧ v3 = v'') ?_ ?_
    · intro k44 hk44
      refine ifK_intro (fun h => hk44 _ _ ⟨?_, rfl⟩) fun h => hk44 _ _ ⟨?_, rfl⟩
      · rw [hnx.1 (dlt h), step64 (by omega)]
      · rw [hnx.2 (by have := dge h; omega)]
    rintro x v3 ⟨rfl, rfl⟩
    have hnle := nx_le g2
    have hnge : e ≤ nx T e := by unfold nx; omega
    have e2 : w64 (((nx T e : Nat) : Int) - (fr : Int)) = ((nx T e - fr : Nat) : Int) := by rw [w64_in (by omega) (by omega)]; omega
    rw [e2]
    refine join1 (fun c v4 => v4 = v3 ∧ (c = true ↔ nx T e = e ∨ 65536 < nx T e - fr)) ?_ ?_
    · intro k47 hk47
      refine ifK_intro (fun h => hk47 _ _ ⟨rfl, ?_⟩) fun h => hk47 _ _ ⟨rfl, ?_⟩
      · have h : ((nx T e : Nat) : Int) = (e : Int) := by simpa using h
        exact ⟨fun _ => .inl (by omega), fun _ => rfl⟩
      · have h : ((nx T e : Nat) : Int) ≠ (e : Int) := by simpa using h
        rw [decide_eq_true_eq]; omega
    rintro c v4 ⟨rfl, hc⟩
    refine ifK_intro (fun h => ?_) fun h => ?_
    · have hx := hc.1 h
      refine hk28 _ _ ⟨?_, rfl⟩
      rw [g3]
      conv => rhs; rw [inR]
      rw [dif_neg (fun y => by have := nx_gt y.1; omega)]
    · have hx : ¬ (nx T e = e ∨ 65536 < nx T e - fr) := fun y => by rw [hc.2 y] at h; cases h
      have hel : e < T.length := by
        rcases Nat.lt_or_ge e T.length with h | h
        · exact h
        · exact absurd (by unfold nx; rw [List.drop_eq_nil_of_le h]; rfl) (fun y => hx (.inl y))
      refine ⟨⟨rfl, nx T e, rfl, by omega, hnle, ?_⟩, by have := nx_gt hel; omega⟩
      rw [g3]
      conv => lhs; rw [inR]
      rw [dif_pos ⟨hel, fun y => hx (.inr y)⟩]
  rintro e v' ⟨rfl, rfl⟩
  have hge := inR_ge T fr fr
  have hle := inR_le T fr fr h1
  have htlen : t.len = L.length := by rw [hv.1, List.length_map]
  rw [htlen]
  refine join1 (fun c v4 => v4 = v' ∧ (c = true ↔ inR T fr fr = fr ∨ L.length = 256)) ?_ ?_
  · intro k52 hk52
    refine ifK_intro (fun h => hk52 _ _ ⟨rfl, ?_⟩) fun h => hk52 _ _ ⟨rfl, ?_⟩
    · have h : ((inR T fr fr : Nat) : Int) = (fr : Int) := by simpa using h
      exact ⟨fun _ => .inl (by omega), fun _ => rfl⟩
    · have h : ((inR T fr fr : Nat) : Int) ≠ (fr : Int) := by simpa using h
      have : ((L.length : Int) == 256) = true ↔ L.length = 256 := by
        rw [beq_iff_eq]; omega
      rw [this]
      omega
  rintro c v4 ⟨rfl, hc⟩
  refine ifK_intro (fun h => ?_) fun h => ?_
  · refine bad hAu ?_
    unfold ansS
    rw [hpr]
    rcases hc.1 h with h | h
    · rw [dif_pos h]; rfl
    · by_cases h3 : inR T fr fr = fr
      · rw [dif_pos h3]; rfl
      · rw [dif_neg h3]
        cases rfS T (inR T fr fr) with
        | none => rfl
        | some z => simp only [Option.map_some]; rw [if_pos (by simp; omega)]
  have hx : ¬ (inR T fr fr = fr ∨ L.length = 256) := fun y => by rw [hc.2 y] at h; cases h
  rw [dif_neg (fun y => hx (.inl y))] at hpr
  generalize inR T fr fr = e at hge hle hx hpr
  have hcap := hrd.has
  refine ⟨fr, e, tx.cap, rfl, rfl, rfl, hge, by omega, Nat.le_refl _, ?_⟩
  have hcut : RdS v4 ET (tx.cut 1 fr e tx.cap) ((T.take e).drop fr) := RdS.cutR hrd hge hle (by omega)
  have ecut : (T.take e).drop fr = (T.drop fr).take (e - fr) := List.drop_take
  rw [ecut] at hcut
  refine conv_ok hcut (fun y => by have := congrArg List.length y; simp at this; omega) ?_
  refine hAu.alK fun b u2 _ hA2 _ => ?_
  have hb : Blk u2 b (ESs.f (sp T (fr, e))) := hA2.own (b, _) (List.mem_append_right _ (List.mem_singleton.2 rfl))
  have hA2' : At w0 D ((m ++ tb) ++ ro) u2 := hA2.sub (List.sublist_append_left _ _)
  refine appL hA2' hv (rd_one hb) rfl rfl (by simp only [List.length_map, List.length_cons, List.length_nil]; omega) fun t' ro' u3 hA3 hv3 _ _ => ⟨⟨e, ro', L ++ [(fr, e)], rfl, hle, by simp; omega, hA3, by rw [List.map_append]; exact hv3, ?_⟩, by omega⟩
  rw [hpr]
  cases rfS T e <;> simp
end Go.Proofs.YtjldecomhpngmaaDoor
