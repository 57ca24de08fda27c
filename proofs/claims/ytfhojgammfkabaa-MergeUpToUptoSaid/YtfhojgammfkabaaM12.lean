/- A merge of played sources is made; what is read of it. -/
import Derived.Test.YtfhojgammfkabaaM11
namespace Go.Proofs.Ytfhojgammfkabaa
open Go.Vw

abbrev nextV (p : PA) : Value := .func (.func 34) #[(LV.ptr p).toV] #[]
abbrev cmpV : Value := .func (.func 31) #[] #[]
theorem nextV_fn (p : PA) : isFn (nextV p) := ⟨_, _, _, rfl⟩
theorem cmpV_fn : isFn cmpV := ⟨_, _, _, rfl⟩
theorem _root_.Go.Vw.At.rebase {w0 w1 w2 : World} {m : List (Nat × List Value)} (h : At w1 (fun _ => False) m w2) (hM : Mod (fun _ => False) w0 w1) : At w0 (fun _ => False) m w2 :=
  ⟨hM.trans h.mod (fun _ _ h => h) (fun _ _ h => h), h.own, h.nodup, fun p hp hlt => h.wr p hp (Nat.lt_of_lt_of_le hlt hM.size)⟩
/-- the first things of a slice that is one's own -/
theorem cut_rd {α : Type} {w : World} {E : Enc α} {a : Sl} {xs ys : List α} (h : Vec w E a (xs ++ ys)) (hy : ys ≠ []) {K : Sl → Prop} (hK : ∀ s, RdS w E s xs → K s) : slx a E.n none (some (xs.length : Int)) none K := by
  have hlen := h.len
  simp only [List.length_append] at hlen
  have hyl : 0 < ys.length := List.length_pos_iff.2 hy
  have hpos := E.pos
  rcases h.own with ⟨_, _, hl⟩ | ⟨b, rest, hp, hb, hc⟩
  · simp [hy] at hl
  · have hcap : a.len ≤ a.cap := by
      have h1 : (E.cells (xs ++ ys) ++ rest).length = a.cap * E.n := hc
      rw [List.length_append, E.cells_length, List.length_append] at h1
      have h2 : (xs.length + ys.length) * E.n ≤ a.cap * E.n := by omega
      rw [hlen]; exact Nat.le_of_mul_le_mul_right h2 hpos
    refine ⟨0, xs.length, a.cap, rfl, rfl, rfl, by omega, by omega, Nat.le_refl _, hK _ ⟨by simp [Sl.cut], ?_, by simp [Sl.cut]; omega⟩⟩
    have hne : ¬ a.cap = 0 := by omega
    refine .inr ⟨b, 0, by simp [Sl.cut, hne, hp], fun i hi => ?_⟩
    rw [hb.cell, Nat.zero_add, E.cells_append, List.append_assoc, List.getElem?_append_left hi]
theorem set_step {i : Nat} (h : i ≤ 1048576) : w64 ((i : Int) + 1) = ((i + 1 : Nat) : Int) := by rw [w64_in (by omega) (by omega)]; omega
theorem EF_fn_spl {v x : Value} (h : isFn v ∨ v = .nilFunc) : spl (EF.f x) 0 [v] = EF.f v := by
  have : isCell v = true := by rcases h with h | rfl; exact h.cell; rfl
  simp [EF, spl, this]
/-- the list of sources, written over with these -/
theorem made_set {w : World} {l a : Sl} {ps : List PA} (hr : RdS w EP l ps) {xs ys : List Value} (hx : xs.length = ps.length) (hv : Vec w EF a (xs ++ ys)) (hd : ∀ b, bk l b → ¬ bk a b) (hlen : ps.length ≤ 1048576) {k : World → Prop}
    (hK : ∀ w', Vec w' EF a (ps.map nextV ++ ys) → Mod (bk a) w w' → k w') :
    loopL [.int .i64] (fun i25 w_26 again24 =>
      ifK (decide (i25 < (l.len : Int)))
      (ix l 1 i25 fun b27 o28 =>
        Go.Vw.ld w_26 .ptr b27 o28 fun p29 =>
        ix a 1 i25 fun b30 o31 =>
        (∀ x ∈ [(.func (.func 34) #[(LV.toV (.ptr p29))] #[] : Value)], isCell x = true) ∧
        Go.Vw.st w_26 b30 o31 [.val (.func (.func 34) #[(LV.toV (.ptr p29))] #[])] fun w_32 =>
        again24 (w64 (i25 + 1)) w_32)
      (k w_26)) [.int .i64 0] w := by
  refine loop1 (k := .int .i64) (fun x w' => ∃ i : Nat, x = i ∧ i ≤ ps.length ∧ Vec w' EF a ((ps.take i).map nextV ++ xs.drop i ++ ys) ∧ Mod (bk a) w w') (fun x _ => ps.length - x.toNat) rfl ⟨0, rfl, by omega, by simpa using hv, Mod.refl _ _⟩ ?_
  rintro x w1 ⟨i, rfl, hi, hv1, M1⟩
  refine ifK_intro (fun hlt => ?_) (fun hlt => ?_)
  · have hlt' : i < ps.length := by rw [hr.len] at hlt; simpa using hlt
    obtain ⟨p, hp⟩ : ∃ p, ps[i]? = some p := ⟨_, List.getElem?_eq_getElem hlt'⟩
    obtain ⟨x, hxi⟩ : ∃ x, xs[i]? = some x := ⟨_, List.getElem?_eq_getElem (by omega)⟩
    have hcur : ((ps.take i).map nextV ++ xs.drop i ++ ys)[i]? = some x := by
      rw [List.append_assoc, List.getElem?_append_right (by simp; omega)]
      simp only [List.length_map, List.length_take, Nat.min_eq_left hi, Nat.sub_self]
      rw [List.getElem?_append_left (by simp; omega), List.getElem?_drop]; simpa using hxi
    refine (hr.keep M1 fun b hb => hd b hb.2).ix rfl rfl hp fun b o _ hc => ld_cell (k := .ptr) p (hc 0 (by decide)) ?_
    obtain ⟨ba, oa, hpa, hla, _⟩ := hv1.rd.at hcur
    refine ix_some (hc := hv1.rd.has) hpa (by omega) (by omega) ⟨fun z hz => by simp at hz; subst hz; rfl, ?_⟩
    have hoff : oa + (i : Int).toNat * 1 = oa + i * EF.n + 0 := by simp [EF]
    rw [hoff]
    refine hv1.set hcur hpa (by simp [EF]) (EF_fn_spl (.inl (nextV_fn p))) fun w2 hv2 M2 => ?_
    rw [set_step (by omega)]
    refine ⟨⟨i + 1, rfl, hlt', ?_, M1.trans M2 (fun _ _ h => h) (fun _ _ h => h)⟩, by simp; omega⟩
    have he : ((ps.take i).map nextV ++ xs.drop i ++ ys).set i (nextV p) = (ps.take (i + 1)).map nextV ++ xs.drop (i + 1) ++ ys := by
      rw [List.append_assoc, List.set_append_right _ _ (by simp; omega)]
      simp only [List.length_map, List.length_take, Nat.min_eq_left hi, Nat.sub_self]
      rw [List.drop_eq_getElem_cons (by omega : i < xs.length), List.cons_append, List.set_cons_zero, List.take_add_one, hp]
      simp
    rw [← he]; exact hv2
  · have hge : i = ps.length := by rw [hr.len] at hlt; simp at hlt; omega
    subst hge
    refine hK w1 ?_ M1
    have hd : xs.drop ps.length = [] := List.drop_eq_nil_of_le (by omega)
    simpa [hd] using hv1
theorem made_unset {w : World} {l a : Sl} {n : Nat} (hl : l.len = n) {xs ys : List Value} (hx : xs.length = n) (hv : Vec w EF a (xs ++ ys)) (hlen : n ≤ 1048576) {k : World → Prop} (hK : ∀ w', Mod (bk a) w w' → k w') :
    loopL [.int .i64] (fun i40 w_41 again39 =>
      ifK (decide (i40 < (l.len : Int)))
      (ix a 1 i40 fun b42 o43 =>
        (∀ x ∈ [(.nilFunc : Value)], isCell x = true) ∧
        Go.Vw.st w_41 b42 o43 [.val .nilFunc] fun w_44 =>
        again39 (w64 (i40 + 1)) w_44)
      (k w_41)) [.int .i64 0] w := by
  refine loop1 (k := .int .i64) (fun x w' => ∃ (i : Nat) (xs' : List Value), x = i ∧ i ≤ n ∧ xs'.length = n ∧ Vec w' EF a (xs' ++ ys) ∧ Mod (bk a) w w') (fun x _ => n - x.toNat) rfl ⟨0, xs, rfl, by omega, hx, hv, Mod.refl _ _⟩ ?_
  rintro x w1 ⟨i, xs', rfl, hi, hx', hv1, M1⟩
  refine ifK_intro (fun hlt => ?_) (fun hlt => hK w1 M1)
  have hlt' : i < n := by rw [hl] at hlt; simpa using hlt
  obtain ⟨x, hxi⟩ : ∃ x, xs'[i]? = some x := ⟨_, List.getElem?_eq_getElem (by omega)⟩
  have hcur : (xs' ++ ys)[i]? = some x := by rw [List.getElem?_append_left (by omega)]; exact hxi
  obtain ⟨ba, oa, hpa, hla, _⟩ := hv1.rd.at hcur
  refine ix_some (hc := hv1.rd.has) hpa (by omega) (by omega) ⟨fun z hz => by simp at hz; subst hz; rfl, ?_⟩
  have hoff : oa + (i : Int).toNat * 1 = oa + i * EF.n + 0 := by simp [EF]
  rw [hoff]
  refine hv1.set hcur hpa (by simp [EF]) (EF_fn_spl (v := .nilFunc) (.inr rfl)) fun w2 hv2 M2 => ?_
  rw [set_step (by omega)]
  refine ⟨⟨i + 1, xs'.set i .nilFunc, rfl, hlt', by simp [hx'], ?_, M1.trans M2 (fun _ _ h => h) (fun _ _ h => h)⟩, by simp; omega⟩
  rw [← List.set_append_left _ _ (by omega)]; exact hv2
theorem Mod.fresh {D : Nat → Prop} {a b c : World} (h : Mod (fun _ => False) a b) (k : Mod D b c) (hd : ∀ x, x < a.heap.size → ¬ D x) : Mod (fun _ => False) a c := h.trans k (fun _ _ h => h) fun x hx hD => hd x hx hD
/-- all that made does, but for what New answers the second time -/
theorem made_core {w : World} {l : Sl} {ps : List PA} (hr : RdS w EP l ps) (hlen : ps.length ≤ 1048576) {K : PA → Int → World → Prop}
    (hnew : ∀ w1 s (vs : List Value) (K' : PA → Int → World → Prop), RdS w1 EF s vs → (∀ v ∈ vs, isFn v) → vs.length = ps.length → (∀ p e w2, Mod (fun _ => False) w1 w2 → K' p e w2) → callK Try.prog 30 [.leaf (.val cmpV), .leaf (.sl s)] w1 (.tup [.leaf .ptr, .leaf (.int .i64)]) K')
    (hK : ∀ w1 s (K' : PA → Int → World → Prop), RdS w1 EF s (ps.map nextV) → Mod (fun _ => False) w w1 → (∀ p e w2, Mod (fun _ => False) w1 w2 → (∀ w3 D, Mod D w2 w3 → (∀ x, D x → x < w1.heap.size ∧ w.heap.size ≤ x) → K p e w3) → K' p e w2) → callK Try.prog 30 [.leaf (.val cmpV), .leaf (.sl s)] w1 (.tup [.leaf .ptr, .leaf (.int .i64)]) K') :
    callK Try.prog 23 [.leaf (.sl l)] w (.tup [.leaf .ptr, .leaf (.int .i64)]) K := by
  refine go_winnowlaw11_made _ _ _ ?_
  unfold S_winnowlaw11_made
  refine (At.init w fun _ => False).alK fun b2 w1 hb2 h1 M1 => ?_
  refine join1 (a := .sl) (fun from_ w' => Vec w' EF from_ (List.replicate ps.length (nextV (some (b2, 0)))) ∧ Mod (fun _ => False) w w' ∧ ∀ b, bk from_ b → w.heap.size ≤ b) (fun k hk => ?_) ?_
  · refine loop2 (k1 := .sl) (k2 := .int .i64) (fun from_ x w' => ∃ i : Nat, x = i ∧ i ≤ ps.length ∧ Vec w' EF from_ (List.replicate i (nextV (some (b2, 0)))) ∧ Mod (fun _ => False) w w' ∧ ∀ b, bk from_ b → w.heap.size ≤ b) (fun _ x _ => ps.length - x.toNat) rfl rfl
      ⟨0, rfl, by omega, Vec.nil _ _, M1, fun b hb => by obtain ⟨o, h⟩ := hb; cases h⟩ ?_
    rintro from_ x w2 ⟨i, rfl, hi, hv, M2, hbk⟩
    refine ifK_intro (fun hlt => ?_) (fun hlt => ?_)
    · have hlt' : i < ps.length := by rw [hr.len] at hlt; simpa using hlt
      refine ⟨fun z hz => by simp at hz; subst hz; rfl, ?_⟩
      refine (At.init w2 fun _ => False).alK fun b9 w3 hb9 h3 M3 => ?_
      have hr3 : RdS w3 EF ⟨some (b9, 0), 1, 1⟩ [nextV (some (b2, 0))] := rd_one (by rw [EF_f (nextV_fn _)]; exact h3.blk (i := 0) rfl)
      refine (hv.keep M3 fun _ _ => id).app hr3 rfl rfl (by simp; omega) fun s' w4 hv4 hbk4 M4 _ => ?_
      rw [set_step (by omega)]
      refine ⟨⟨i + 1, rfl, hlt', ?_, Mod.fresh (M2.trans M3 (fun _ _ h => h) (fun _ _ h => h)) M4 fun x hx hb => by have := hbk x hb; omega, fun b hb => ?_⟩, by simp; omega⟩
      · rw [List.replicate_succ']; exact hv4
      · rcases hbk4 b hb with h | h
        · exact hbk b h
        · have := M2.size; have := M3.size; omega
    · have hge : i = ps.length := by rw [hr.len] at hlt; simp at hlt; omega
      subst hge
      exact hk _ _ ⟨hv, M2, hbk⟩
  · rintro from_ w2 ⟨hv, M2, hbk⟩
    refine ⟨fun z hz => by simp at hz; subst hz; rfl, ?_⟩
    refine (At.init w2 fun _ => False).alK fun b15 w3 hb15 h3 M3 => ?_
    have hr3 : RdS w3 EF ⟨some (b15, 0), 1, 1⟩ [.nilFunc] := rd_one (h3.blk (i := 0) rfl)
    refine (hv.keep M3 fun _ _ => id).app hr3 rfl rfl (by simp; omega) fun a17 w4 hv4 hbk4 M4 _ => ?_
    have M24 : Mod (fun _ => False) w w4 := Mod.fresh (M2.trans M3 (fun _ _ h => h) (fun _ _ h => h)) M4 fun x hx hb => by have := hbk x hb; omega
    have hge : ∀ b, bk a17 b → w.heap.size ≤ b := fun b hb => by
      rcases hbk4 b hb with h | h
      · exact hbk b h
      · have := M2.size; have := M3.size; omega
    have hll : (l.len : Int) = ((List.replicate ps.length (nextV (some (b2, 0)))).length : Int) := by rw [hr.len]; simp
    rw [hll]
    refine cut_rd hv4 (by simp) fun s19 hs19 => ?_
    refine hnew w4 s19 _ _ hs19 (fun v hv => by rw [List.mem_replicate] at hv; rw [hv.2]; exact nextV_fn _) (by simp) fun p20 n21 w5 M5 => ?_
    have hv5 := hv4.keep M5 fun _ _ => id
    rw [← hll]
    have hr5 := (hr.keep M24 fun _ _ => id).keep M5 fun _ _ => id
    have hlb : ∀ b, bk l b → ¬ bk a17 b ∨ ps = [] := fun b hb => by
      rcases hr.rd with hc | ⟨b', o, hp, hcell⟩
      · right
        cases ps with
        | nil => rfl
        | cons p ps => simp [EP, Enc.cells] at hc
      · by_cases hps : ps = []
        · exact .inr hps
        · left
          intro hb'
          obtain ⟨o', hb⟩ := hb
          rw [hp] at hb; cases hb
          have hpos : 0 < (EP.cells ps).length := by rw [EP.cells_length]; have := List.length_pos_iff.2 hps; simp [EP]; omega
          have h0 := hcell 0 hpos
          rw [List.getElem?_eq_getElem hpos] at h0
          have h1 := cell_lt h0
          have h2 := hge _ hb'
          exact absurd h1 (by simpa using h2)
    refine join0 (fun w' => Vec w' EF a17 (ps.map nextV ++ [.nilFunc]) ∧ Mod (bk a17) w5 w') (fun k hk => ?_) ?_
    · by_cases hps : ps = []
      · subst hps
        refine loop1 (k := .int .i64) (fun x w' => x = 0 ∧ w' = w5) (fun _ _ => 0) rfl ⟨rfl, rfl⟩ ?_
        rintro x w6 ⟨rfl, rfl⟩
        refine ifK_f (by rw [hr.len]; rfl) (hk _ ⟨by simpa using hv5, Mod.refl _ _⟩)
      · exact made_set hr5 (by simp) hv5 (fun b hb => (hlb b hb).resolve_right hps) hlen fun w6 hv6 M6 => hk _ ⟨hv6, M6⟩
    · rintro w6 ⟨hv6, M6⟩
      have M56 : Mod (fun _ => False) w w6 := Mod.fresh (M24.trans M5 (fun _ _ h => h) (fun _ _ h => h)) M6 fun x hx hb => by have := hge x hb; omega
      have hll2 : (l.len : Int) = ((ps.map nextV).length : Int) := by rw [hr.len]; simp
      rw [hll2]
      refine cut_rd hv6 (by simp) fun s34 hs34 => ?_
      refine hK w6 s34 _ hs34 M56 fun p35 n36 w7 M7 hfin => ?_
      rw [← hll2]
      refine join0 (fun w' => Mod (bk a17) w7 w') (fun k hk => ?_) fun w8 M8 => hfin w8 _ M8 fun x hx => ⟨hv6.lt hx, hge x hx⟩
      exact made_unset (n := ps.length) hr.len (by simp) (hv6.keep M7 fun _ _ => id) hlen fun w8 M8 => hk _ M8
theorem made_ok {w : World} {l : Sl} {ps : List PA} (hr : RdS w EP l ps) (hlen : ps.length ≤ 64) {K : PA → Int → World → Prop}
    (hK : ∀ w' y, At w (fun _ => False) (y.m (s0 ps.length) []) w' → Made y cmpV (ps.map nextV) → K (some (y.b, 0)) 0 w') :
    callK Try.prog 23 [.leaf (.sl l)] w (.tup [.leaf .ptr, .leaf (.int .i64)]) K := by
  refine made_core hr (by omega) ?_ ?_
  · intro w1 s vs K' hs hf hl hK'
    exact new_ok cmpV_fn hs hf (by omega) fun w2 y hA _ => hK' _ _ _ hA.mod
  · intro w1 s K' hs M1 hK'
    refine new_ok cmpV_fn hs (fun v hv => by obtain ⟨p, _, rfl⟩ := List.mem_map.1 hv; exact nextV_fn p) (by simpa using hlen) fun w2 y hA hy => hK' _ _ _ hA.mod fun w3 D M3 hD => ?_
    rw [List.length_map] at hA
    refine hK w3 y ((hA.rebase M1).keep M3 (fun b hb hd => absurd hb (by have := (hD b hd).2; omega)) fun p hp hd => ?_) hy
    exact hA.wr p hp (hD _ hd).1
theorem made_big {w : World} {l : Sl} {ps : List PA} (hr : RdS w EP l ps) (hbig : 64 < ps.length) (hlen : ps.length ≤ 1048576) {K : PA → Int → World → Prop} (hK : ∀ w', Mod (fun _ => False) w w' → K none 3 w') :
    callK Try.prog 23 [.leaf (.sl l)] w (.tup [.leaf .ptr, .leaf (.int .i64)]) K := by
  refine made_core hr hlen ?_ ?_
  · intro w1 s vs K' hs hf hl hK'
    exact new_big cmpV_fn hs hf (by omega) (by omega) (hK' _ _ _ (Mod.refl _ _))
  · intro w1 s K' hs M1 hK'
    refine new_big cmpV_fn hs (fun v hv => by obtain ⟨p, _, rfl⟩ := List.mem_map.1 hv; exact nextV_fn p) (by simp; omega) (by simpa using hbig) (hK' _ _ _ (Mod.refl _ _) fun w3 D M3 hD => ?_)
    exact hK w3 (Mod.fresh M1 M3 fun x hx hd => by have := (hD x hd).2; omega)
end Go.Proofs.Ytfhojgammfkabaa
