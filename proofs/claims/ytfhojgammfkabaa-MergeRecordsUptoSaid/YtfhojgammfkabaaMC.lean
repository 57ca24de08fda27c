/- M12, M13, M14, M15 in one text. -/
import Derived.Test.YtfhojgammfkabaaMB
import Derived.Test.YtfhojgammfkabaaSRun
/- A merge of played sources is made; what is read of it. -/
namespace Go.Proofs.Ytfhojgammfkabaa
open Go.Vw

abbrev nextV (p : PA) : Value := .func (.func 34) #[(LV.ptr p).toV] #[]
abbrev cmpV : Value := .func (.func 31) #[] #[]
theorem nextV_fn (p : PA) : isFn (nextV p) := ⟨_, _, _, rfl⟩
theorem cmpV_fn : isFn cmpV := ⟨_, _, _, rfl⟩
theorem _root_.Go.Vw.At.rebase {w0 w1 w2 : World} {m : List (Nat × List Value)} (h : At w1 (fun _ => False) m w2) (hM : Mod (fun _ => False) w0 w1) : At w0 (fun _ => False) m w2 :=
  ⟨hM.trans h.mod (fun _ _ h => h) (fun _ _ h => h), h.own, h.nodup, fun p hp hlt => h.wr p hp (Nat.lt_of_lt_of_le hlt hM.size)⟩
/-- the first things of a slice that is one's own -/
theorem cut_rd {α : Type} {w : World} {E : Enc α} {a : Sl} {xs ys : List α} (h : Vec w E a (xs ++ ys)) (hy : ys ≠ []) {K : Sl → Prop} (hK : ∀ s, RdS w E s xs → K s) : slx a E.n none (some (xs.length : Int)) none K := by
  have hlen := h.len
  simp only [List.length_append] at hlen
  have hyl : 0 < ys.length := List.length_pos_iff.2 hy
  have hpos := E.pos
  rcases h.own with ⟨_, _, hl⟩ | ⟨b, rest, hp, hb, hc⟩
  · simp [hy] at hl
  · have hcap : a.len ≤ a.cap := by
      have h1 : (E.cells (xs ++ ys) ++ rest).length = a.cap * E.n := hc
      rw [List.length_append, E.cells_length, List.length_append] at h1
      have h2 : (xs.length + ys.length) * E.n ≤ a.cap * E.n := by omega
      rw [hlen]; exact Nat.le_of_mul_le_mul_right h2 hpos
    refine ⟨0, xs.length, a.cap, rfl, rfl, rfl, by omega, by omega, Nat.le_refl _, hK _ ⟨by simp [Sl.cut], ?_, by simp [Sl.cut]; omega⟩⟩
    have hne : ¬ a.cap = 0 := by omega
    refine .inr ⟨b, 0, by simp [Sl.cut, hne, hp], fun i hi => ?_⟩
    rw [hb.cell, Nat.zero_add, E.cells_append, List.append_assoc, List.getElem?_append_left hi]
theorem set_step {i : Nat} (h : i ≤ 1048576) : w64 ((i : Int) + 1) = ((i + 1 : Nat) : Int) := by rw [w64_in (by omega) (by omega)]; omega
theorem EF_fn_spl {v x : Value} (h : isFn v ∨ v = .nilFunc) : spl (EF.f x) 0 [v] = EF.f v := by
  have : isCell v = true := by rcases h with h | rfl; exact h.cell; rfl
  simp [EF, spl, this]
/-- the list of sources, written over with these -/
theorem made_set {w : World} {l a : Sl} {ps : List PA} (hr : RdS w EP l ps) {xs ys : List Value} (hx : xs.length = ps.length) (hv : Vec w EF a (xs ++ ys)) (hd : ∀ b, bk l b → ¬ bk a b) (hlen : ps.length ≤ 1048576) {k : World → Prop}
    (hK : ∀ w', Vec w' EF a (ps.map nextV ++ ys) → Mod (bk a) w w' → k w') :
    loopL [.int .i64] (fun i25 w_26 again24 =>
      ifK (decide (i25 < (l.len : Int)))
      (ix l 1 i25 fun b27 o28 =>
        Go.Vw.ld w_26 .ptr b27 o28 fun p29 =>
        ix a 1 i25 fun b30 o31 =>
        (∀ x ∈ [(.func (.func 34) #[(LV.toV (.ptr p29))] #[] : Value)], isCell x = true) ∧
        Go.Vw.st w_26 b30 o31 [.val (.func (.func 34) #[(LV.toV (.ptr p29))] #[])] fun w_32 =>
        again24 (w64 (i25 + 1)) w_32)
      (k w_26)) [.int .i64 0] w := by
  refine loop1 (k := .int .i64) (fun x w' => ∃ i : Nat, x = i ∧ i ≤ ps.length ∧ Vec w' EF a ((ps.take i).map nextV ++ xs.drop i ++ ys) ∧ Mod (bk a) w w') (fun x _ => ps.length - x.toNat) rfl ⟨0, rfl, by omega, by simpa using hv, Mod.refl _ _⟩ ?_
  rintro x w1 ⟨i, rfl, hi, hv1, M1⟩
  refine ifK_intro (fun hlt => ?_) (fun hlt => ?_)
  · have hlt' : i < ps.length := by rw [hr.len] at hlt; simpa using hlt
    obtain ⟨p, hp⟩ : ∃ p, ps[i]? = some p := ⟨_, List.getElem?_eq_getElem hlt'⟩
    obtain ⟨x, hxi⟩ : ∃ x, xs[i]? = some x := ⟨_, List.getElem?_eq_getElem (by omega)⟩
    have hcur : ((ps.take i).map nextV ++ xs.drop i ++ ys)[i]? = some x := by
      rw [List.append_assoc, List.getElem?_append_right (by simp; omega)]
      simp only [List.length_map, List.length_take, Nat.min_eq_left hi, Nat.sub_self]
      rw [List.getElem?_append_left (by simp; omega), List.getElem?_drop]; simpa using hxi
    refine (hr.keep M1 fun b hb => hd b hb.2).ix rfl rfl hp fun b o _ hc => ld_cell (k := .ptr) p (hc 0 (by decide)) ?_
    obtain ⟨ba, oa, hpa, hla, _⟩ := hv1.rd.at hcur
    refine ix_some (hc := hv1.rd.has) hpa (by omega) (by omega) ⟨fun z hz => by simp at hz; subst hz; rfl, ?_⟩
    have hoff : oa + (i : Int).toNat * 1 = oa + i * EF.n + 0 := by simp [EF]
    rw [hoff]
    refine hv1.set hcur hpa (by simp [EF]) (EF_fn_spl (.inl (nextV_fn p))) fun w2 hv2 M2 => ?_
    rw [set_step (by omega)]
    refine ⟨⟨i + 1, rfl, hlt', ?_, M1.trans M2 (fun _ _ h => h) (fun _ _ h => h)⟩, by simp; omega⟩
    have he : ((ps.take i).map nextV ++ xs.drop i ++ ys).set i (nextV p) = (ps.take (i + 1)).map nextV ++ xs.drop (i + 1) ++ ys := by
      rw [List.append_assoc, List.set_append_right _ _ (by simp; omega)]
      simp only [List.length_map, List.length_take, Nat.min_eq_left hi, Nat.sub_self]
      rw [List.drop_eq_getElem_cons (by omega : i < xs.length), List.cons_append, List.set_cons_zero, List.take_add_one, hp]
      simp
    rw [← he]; exact hv2
  · have hge : i = ps.length := by rw [hr.len] at hlt; simp at hlt; omega
    subst hge
    refine hK w1 ?_ M1
    have hd : xs.drop ps.length = [] := List.drop_eq_nil_of_le (by omega)
    simpa [hd] using hv1
theorem made_unset {w : World} {l a : Sl} {n : Nat} (hl : l.len = n) {xs ys : List Value} (hx : xs.length = n) (hv : Vec w EF a (xs ++ ys)) (hlen : n ≤ 1048576) {k : World → Prop} (hK : ∀ w', Mod (bk a) w w' → k w') :
    loopL [.int .i64] (fun i40 w_41 again39 =>
      ifK (decide (i40 < (l.len : Int)))
      (ix a 1 i40 fun b42 o43 =>
        (∀ x ∈ [(.nilFunc : Value)], isCell x = true) ∧
        Go.Vw.st w_41 b42 o43 [.val .nilFunc] fun w_44 =>
        again39 (w64 (i40 + 1)) w_44)
      (k w_41)) [.int .i64 0] w := by
  refine loop1 (k := .int .i64) (fun x w' => ∃ (i : Nat) (xs' : List Value), x = i ∧ i ≤ n ∧ xs'.length = n ∧ Vec w' EF a (xs' ++ ys) ∧ Mod (bk a) w w') (fun x _ => n - x.toNat) rfl ⟨0, xs, rfl, by omega, hx, hv, Mod.refl _ _⟩ ?_
  rintro x w1 ⟨i, xs', rfl, hi, hx', hv1, M1⟩
  refine ifK_intro (fun hlt => ?_) (fun hlt => hK w1 M1)
  have hlt' : i < n := by rw [hl] at hlt; simpa using hlt
  obtain ⟨x, hxi⟩ : ∃ x, xs'[i]? = some x := ⟨_, List.getElem?_eq_getElem (by omega)⟩
  have hcur : (xs' ++ ys)[i]? = some x := by rw [List.getElem?_append_left (by omega)]; exact hxi
  obtain ⟨ba, oa, hpa, hla, _⟩ := hv1.rd.at hcur
  refine ix_some (hc := hv1.rd.has) hpa (by omega) (by omega) ⟨fun z hz => by simp at hz; subst hz; rfl, ?_⟩
  have hoff : oa + (i : Int).toNat * 1 = oa + i * EF.n + 0 := by simp [EF]
  rw [hoff]
  refine hv1.set hcur hpa (by simp [EF]) (EF_fn_spl (v := .nilFunc) (.inr rfl)) fun w2 hv2 M2 => ?_
  rw [set_step (by omega)]
  refine ⟨⟨i + 1, xs'.set i .nilFunc, rfl, hlt', by simp [hx'], ?_, M1.trans M2 (fun _ _ h => h) (fun _ _ h => h)⟩, by simp; omega⟩
  rw [← List.set_append_left _ _ (by omega)]; exact hv2
theorem Mod.fresh {D : Nat → Prop} {a b c : World} (h : Mod (fun _ => False) a b) (k : Mod D b c) (hd : ∀ x, x < a.heap.size → ¬ D x) : Mod (fun _ => False) a c := h.trans k (fun _ _ h => h) fun x hx hD => hd x hx hD
/-- all that made does, but for what New answers the second time -/
theorem made_core {w : World} {l : Sl} {ps : List PA} (hr : RdS w EP l ps) (hlen : ps.length ≤ 1048576) {K : PA → Int → World → Prop}
    (hnew : ∀ w1 s (vs : List Value) (K' : PA → Int → World → Prop), RdS w1 EF s vs → (∀ v ∈ vs, isFn v) → vs.length = ps.length → (∀ p e w2, Mod (fun _ => False) w1 w2 → K' p e w2) → callK Try.prog 30 [.leaf (.val cmpV), .leaf (.sl s)] w1 (.tup [.leaf .ptr, .leaf (.int .i64)]) K')
    (hK : ∀ w1 s (K' : PA → Int → World → Prop), RdS w1 EF s (ps.map nextV) → Mod (fun _ => False) w w1 → (∀ p e w2, Mod (fun _ => False) w1 w2 → (∀ w3 D, Mod D w2 w3 → (∀ x, D x → x < w1.heap.size ∧ w.heap.size ≤ x) → K p e w3) → K' p e w2) → callK Try.prog 30 [.leaf (.val cmpV), .leaf (.sl s)] w1 (.tup [.leaf .ptr, .leaf (.int .i64)]) K') :
    callK Try.prog 23 [.leaf (.sl l)] w (.tup [.leaf .ptr, .leaf (.int .i64)]) K := by
  refine go_winnowlaw11_made _ _ _ ?_
  unfold S_winnowlaw11_made
  refine (At.init w fun _ => False).alK fun b2 w1 hb2 h1 M1 => ?_
  refine join1 (a := .sl) (fun from_ w' => Vec w' EF from_ (List.replicate ps.length (nextV (some (b2, 0)))) ∧ Mod (fun _ => False) w w' ∧ ∀ b, bk from_ b → w.heap.size ≤ b) (fun k hk => ?_) ?_
  · refine loop2 (k1 := .sl) (k2 := .int .i64) (fun from_ x w' => ∃ i : Nat, x = i ∧ i ≤ ps.length ∧ Vec w' EF from_ (List.replicate i (nextV (some (b2, 0)))) ∧ Mod (fun _ => False) w w' ∧ ∀ b, bk from_ b → w.heap.size ≤ b) (fun _ x _ => ps.length - x.toNat) rfl rfl
      ⟨0, rfl, by omega, Vec.nil _ _, M1, fun b hb => by obtain ⟨o, h⟩ := hb; cases h⟩ ?_
    rintro from_ x w2 ⟨i, rfl, hi, hv, M2, hbk⟩
    refine ifK_intro (fun hlt => ?_) (fun hlt => ?_)
    · have hlt' : i < ps.length := by rw [hr.len] at hlt; simpa using hlt
      refine ⟨fun z hz => by simp at hz; subst hz; rfl, ?_⟩
      refine (At.init w2 fun _ => False).alK fun b9 w3 hb9 h3 M3 => ?_
      have hr3 : RdS w3 EF ⟨some (b9, 0), 1, 1⟩ [nextV (some (b2, 0))] := rd_one (by rw [EF_f (nextV_fn _)]; exact h3.blk (i := 0) rfl)
      refine (hv.keep M3 fun _ _ => id).app hr3 rfl rfl (by simp; omega) fun s' w4 hv4 hbk4 M4 _ => ?_
      rw [set_step (by omega)]
      refine ⟨⟨i + 1, rfl, hlt', ?_, Mod.fresh (M2.trans M3 (fun _ _ h => h) (fun _ _ h => h)) M4 fun x hx hb => by have := hbk x hb; omega, fun b hb => ?_⟩, by simp; omega⟩
      · rw [List.replicate_succ']; exact hv4
      · rcases hbk4 b hb with h | h
        · exact hbk b h
        · have := M2.size; have := M3.size; omega
    · have hge : i = ps.length := by rw [hr.len] at hlt; simp at hlt; omega
      subst hge
      exact hk _ _ ⟨hv, M2, hbk⟩
  · rintro from_ w2 ⟨hv, M2, hbk⟩
    refine ⟨fun z hz => by simp at hz; subst hz; rfl, ?_⟩
    refine (At.init w2 fun _ => False).alK fun b15 w3 hb15 h3 M3 => ?_
    have hr3 : RdS w3 EF ⟨some (b15, 0), 1, 1⟩ [.nilFunc] := rd_one (h3.blk (i := 0) rfl)
    refine (hv.keep M3 fun _ _ => id).app hr3 rfl rfl (by simp; omega) fun a17 w4 hv4 hbk4 M4 _ => ?_
    have M24 : Mod (fun _ => False) w w4 := Mod.fresh (M2.trans M3 (fun _ _ h => h) (fun _ _ h => h)) M4 fun x hx hb => by have := hbk x hb; omega
    have hge : ∀ b, bk a17 b → w.heap.size ≤ b := fun b hb => by
      rcases hbk4 b hb with h | h
      · exact hbk b h
      · have := M2.size; have := M3.size; omega
    have hll : (l.len : Int) = ((List.replicate ps.length (nextV (some (b2, 0)))).length : Int) := by rw [hr.len]; simp
    rw [hll]
    refine cut_rd hv4 (by simp) fun s19 hs19 => ?_
    refine hnew w4 s19 _ _ hs19 (fun v hv => by rw [List.mem_replicate] at hv; rw [hv.2]; exact nextV_fn _) (by simp) fun p20 n21 w5 M5 => ?_
    have hv5 := hv4.keep M5 fun _ _ => id
    rw [← hll]
    have hr5 := (hr.keep M24 fun _ _ => id).keep M5 fun _ _ => id
    have hlb : ∀ b, bk l b → ¬ bk a17 b ∨ ps = [] := fun b hb => by
      rcases hr.rd with hc | ⟨b', o, hp, hcell⟩
      · right
        cases ps with
        | nil => rfl
        | cons p ps => simp [EP, Enc.cells] at hc
      · by_cases hps : ps = []
        · exact .inr hps
        · left
          intro hb'
          obtain ⟨o', hb⟩ := hb
          rw [hp] at hb; cases hb
          have hpos : 0 < (EP.cells ps).length := by rw [EP.cells_length]; have := List.length_pos_iff.2 hps; simp [EP]; omega
          have h0 := hcell 0 hpos
          rw [List.getElem?_eq_getElem hpos] at h0
          have h1 := cell_lt h0
          have h2 := hge _ hb'
          exact absurd h1 (by simpa using h2)
    refine join0 (fun w' => Vec w' EF a17 (ps.map nextV ++ [.nilFunc]) ∧ Mod (bk a17) w5 w') (fun k hk => ?_) ?_
    · by_cases hps : ps = []
      · subst hps
        refine loop1 (k := .int .i64) (fun x w' => x = 0 ∧ w' = w5) (fun _ _ => 0) rfl ⟨rfl, rfl⟩ ?_
        rintro x w6 ⟨rfl, rfl⟩
        refine ifK_f (by rw [hr.len]; rfl) (hk _ ⟨by simpa using hv5, Mod.refl _ _⟩)
      · exact made_set hr5 (by simp) hv5 (fun b hb => (hlb b hb).resolve_right hps) hlen fun w6 hv6 M6 => hk _ ⟨hv6, M6⟩
    · rintro w6 ⟨hv6, M6⟩
      have M56 : Mod (fun _ => False) w w6 := Mod.fresh (M24.trans M5 (fun _ _ h => h) (fun _ _ h => h)) M6 fun x hx hb => by have := hge x hb; omega
      have hll2 : (l.len : Int) = ((ps.map nextV).length : Int) := by rw [hr.len]; simp
      rw [hll2]
      refine cut_rd hv6 (by simp) fun s34 hs34 => ?_
      refine hK w6 s34 _ hs34 M56 fun p35 n36 w7 M7 hfin => ?_
      rw [← hll2]
      refine join0 (fun w' => Mod (bk a17) w7 w') (fun k hk => ?_) fun w8 M8 => hfin w8 _ M8 fun x hx => ⟨hv6.lt hx, hge x hx⟩
      exact made_unset (n := ps.length) hr.len (by simp) (hv6.keep M7 fun _ _ => id) hlen fun w8 M8 => hk _ M8
theorem made_ok {w : World} {l : Sl} {ps : List PA} (hr : RdS w EP l ps) (hlen : ps.length ≤ 64) {K : PA → Int → World → Prop}
    (hK : ∀ w' y, At w (fun _ => False) (y.m (s0 ps.length) []) w' → Made y cmpV (ps.map nextV) → K (some (y.b, 0)) 0 w') :
    callK Try.prog 23 [.leaf (.sl l)] w (.tup [.leaf .ptr, .leaf (.int .i64)]) K := by
  refine made_core hr (by omega) ?_ ?_
  · intro w1 s vs K' hs hf hl hK'
    exact new_ok cmpV_fn hs hf (by omega) fun w2 y hA _ => hK' _ _ _ hA.mod
  · intro w1 s K' hs M1 hK'
    refine new_ok cmpV_fn hs (fun v hv => by obtain ⟨p, _, rfl⟩ := List.mem_map.1 hv; exact nextV_fn p) (by simpa using hlen) fun w2 y hA hy => hK' _ _ _ hA.mod fun w3 D M3 hD => ?_
    rw [List.length_map] at hA
    refine hK w3 y ((hA.rebase M1).keep M3 (fun b hb hd => absurd hb (by have := (hD b hd).2; omega)) fun p hp hd => ?_) hy
    exact hA.wr p hp (hD _ hd).1
theorem made_big {w : World} {l : Sl} {ps : List PA} (hr : RdS w EP l ps) (hbig : 64 < ps.length) (hlen : ps.length ≤ 1048576) {K : PA → Int → World → Prop} (hK : ∀ w', Mod (fun _ => False) w w' → K none 3 w') :
    callK Try.prog 23 [.leaf (.sl l)] w (.tup [.leaf .ptr, .leaf (.int .i64)]) K := by
  refine made_core hr hlen ?_ ?_
  · intro w1 s vs K' hs hf hl hK'
    exact new_big cmpV_fn hs hf (by omega) (by omega) (hK' _ _ _ (Mod.refl _ _))
  · intro w1 s K' hs M1 hK'
    refine new_big cmpV_fn hs (fun v hv => by obtain ⟨p, _, rfl⟩ := List.mem_map.1 hv; exact nextV_fn p) (by simp; omega) (by simpa using hbig) (hK' _ _ _ (Mod.refl _ _) fun w3 D M3 hD => ?_)
    exact hK w3 (Mod.fresh M1 M3 fun x hx hd => by have := (hD x hd).2; omega)
end Go.Proofs.Ytfhojgammfkabaa

/- Played sources tell their lists; a caller's own blocks beside a merge; appending to a known slice. -/
namespace Go.Proofs.Ytfhojgammfkabaa
open Go.Vw

/-- a feed, and what it has yet to tell -/
def FeedR (l : List Thing) (s : FS) : Option (List Thing) → Prop
  | some r => s.at_ ≤ l.length ∧ r = l.drop s.at_ ∧ s.over = false ∧ s.asks = s.at_ ∧ s.bad = false
  | none => s.at_ = l.length ∧ s.over = true ∧ s.asks = l.length + 1 ∧ s.bad = false
def Feeds.St (f : Feeds) (t : Nat → FS) (R : Nat → Option (List Thing)) : Prop := ∀ i, i < f.n → FeedR (f.L i) (t i) (R i)
theorem Feeds.lists (f : Feeds) (hf : f.Ok) : Lists (f.src hf) f.en f.St := by
  constructor
  · intro t R i x r hi hst hR
    have hi' : i < f.n := hi
    have h := hst i hi'
    rw [hR] at h
    obtain ⟨h1, h2, h3, h4, h5⟩ := h
    have hlt : (t i).at_ < (f.L i).length := by
      rcases Nat.lt_or_ge (t i).at_ (f.L i).length with h | h
      · exact h
      · rw [List.drop_eq_nil_of_le h] at h2; cases h2
    have hd := List.drop_eq_getElem_cons hlt
    rw [← h2] at hd
    have hx : (f.L i)[(t i).at_]? = some x := by rw [List.getElem?_eq_getElem hlt]; cases hd; rfl
    have hr : r = (f.L i).drop ((t i).at_ + 1) := by cases hd; rfl
    have hlm := hf.len i hi'
    have ha : ask1 (f.L i) (f.en i) (t i) = ((x, true, 0), { at_ := (t i).at_ + 1, asks := w64 ((t i).asks + 1), over := (t i).over, bad := (t i).bad || (t i).over }) := by unfold ask1; rw [hx]
    refine ⟨by show (ask1 _ _ _).1 = _; rw [ha], fun j hj => ?_⟩
    show FeedR (f.L j) (upd t i (ask1 (f.L i) (f.en i) (t i)).2 j) _
    rw [ha]
    by_cases hji : j = i
    · subst hji
      rw [upd_same, upd_same]
      exact ⟨hlt, hr, h3, by rw [h4]; show w64 (((t j).at_ : Int) + 1) = _; rw [w64_in (by omega) (by omega)]; simp, by simp [h3, h5]⟩
    · rw [upd_ne _ _ hji, upd_ne _ _ hji]; exact hst j hj
  · intro t R i hi hst hR
    have hi' : i < f.n := hi
    have h := hst i hi'
    rw [hR] at h
    obtain ⟨h1, h2, h3, h4, h5⟩ := h
    have hge : (f.L i).length ≤ (t i).at_ := by
      rcases Nat.lt_or_ge (t i).at_ (f.L i).length with h | h
      · rw [List.drop_eq_getElem_cons h] at h2; cases h2
      · exact h
    have hx : (f.L i)[(t i).at_]? = none := List.getElem?_eq_none hge
    have hlm := hf.len i hi'
    have ha : ask1 (f.L i) (f.en i) (t i) = (((-99, -99), false, f.en i), { at_ := (t i).at_, asks := w64 ((t i).asks + 1), over := true, bad := (t i).bad || (t i).over }) := by unfold ask1; rw [hx]
    refine ⟨by show (ask1 _ _ _).1.2 = _; rw [ha], fun j hj => ?_⟩
    show FeedR (f.L j) (upd t i (ask1 (f.L i) (f.en i) (t i)).2 j) _
    rw [ha]
    by_cases hji : j = i
    · subst hji
      rw [upd_same, upd_same]
      exact ⟨by show (t j).at_ = _; omega, rfl, by rw [h4]; show w64 (((t j).at_ : Int) + 1) = _; rw [w64_in (by omega) (by omega)]; omega, by simp [h3, h5]⟩
    · rw [upd_ne _ _ hji, upd_ne _ _ hji]; exact hst j hj

/-! ### a caller's own blocks -/
/-- these blocks -/
def Ks (r : List (Nat × List Value)) : Nat → Prop := fun b => ∃ q ∈ r, q.1 = b
section
variable {σ : Type} {S : Srcs σ} {w0 w : World} {D : Nat → Prop} {y : Ly} {r : List (Nat × List Value)} {t : σ} {F : Nat → Prop}
theorem MI.law {s : MS} {rl : List (Nat × List Value)} (h : MI S w0 D y s (rl ++ r) t F w) {r' : List (Nat × List Value)} {w' : World} (hA : At w (Ks r) r' w') : MI S w0 D y s (rl ++ r') t F w' := by
  have hmem : ∀ q ∈ r, q ∈ y.m s (rl ++ r) := fun q hq => by simp [Ly.m, hq]
  have hnd := h.at_.nodup
  have hsplit : y.m s (rl ++ r) = y.m s rl ++ r := by simp [Ly.m]
  have hsplit' : y.m s (rl ++ r') = y.m s rl ++ r' := by simp [Ly.m]
  have hdis : ∀ p ∈ y.m s rl, ¬ Ks r p.1 := by
    rintro p hp ⟨q, hq, e⟩
    rw [hsplit, List.map_append, List.nodup_append] at hnd
    exact hnd.2.2 _ (List.mem_map_of_mem hp) _ (List.mem_map_of_mem hq) e.symm
  have hbase : ∀ b, w.heap.size ≤ b → ¬ S.G F b := fun b hb hg => by
    rcases hg with hg | hg
    · have := S.lt _ _ _ _ h.src hg; omega
    · have := At.lt h.at_ _ (by simp [Ly.m] : (y.b, y.st s) ∈ y.m s (rl ++ r))
      exact h.off.b (.inr (by simp at this; omega))
  have hold : ∀ p ∈ y.m s rl, p ∈ y.m s (rl ++ r) := fun p hp => by rw [hsplit]; exact List.mem_append_left _ hp
  refine ⟨⟨h.at_.mod.trans hA.mod (fun _ _ h => h) ?_, ?_, ?_, ?_⟩, ⟨h.ok.hd, h.ok.sm⟩, S.keepG h.src hA.mod ?_, Off.of (s := s) ?_, h.dom⟩
  · rintro b hb ⟨q, hq, rfl⟩; exact h.at_.wr q (hmem q hq) hb
  · intro p hp
    rw [hsplit'] at hp
    rcases List.mem_append.1 hp with hp | hp
    · exact hA.mod.blk (h.at_.own p (hold p hp)) (hdis p hp)
    · exact hA.own p hp
  · rw [hsplit', List.map_append, List.nodup_append]
    rw [hsplit, List.map_append, List.nodup_append] at hnd
    refine ⟨hnd.1, hA.nodup, ?_⟩
    rintro a ha b hb rfl
    obtain ⟨p, hp, rfl⟩ := List.mem_map.1 ha
    obtain ⟨q, hq, e⟩ := List.mem_map.1 hb
    have hlt := At.lt h.at_ p (hold p hp)
    have := hA.wr q hq (by omega)
    rw [e] at this
    exact hdis p hp this
  · intro p hp hlt
    rw [hsplit'] at hp
    rcases List.mem_append.1 hp with hp | hp
    · exact h.at_.wr p (hold p hp) hlt
    · obtain ⟨q, hq, e⟩ := hA.wr p hp (Nat.lt_of_lt_of_le hlt h.at_.mod.size)
      rw [← e] at hlt ⊢; exact h.at_.wr q (hmem q hq) hlt
  · rintro b hg ⟨q, hq, rfl⟩; exact h.off.all s q (hmem q hq) hg
  · intro p hp hg
    rw [hsplit'] at hp
    rcases List.mem_append.1 hp with hp | hp
    · exact h.off.all s p (hold p hp) hg
    · rcases Nat.lt_or_ge p.1 w.heap.size with hlt | hge
      · obtain ⟨q, hq, e⟩ := hA.wr p hp hlt
        rw [← e] at hg; exact h.off.all s q (hmem q hq) hg
      · exact hbase _ hge hg
theorem MF.law {p : PM} (h : MF S w0 D y p r t F w) {r' : List (Nat × List Value)} {w' : World} (hA : At w (Ks r) r' w') : MF S w0 D y p r' t F w' :=
  ⟨by obtain ⟨lo, rl, h1, h2⟩ := h.ex; exact ⟨lo, rl, h1.law hA, h2⟩, h.win⟩
theorem MF.rest {p : PM} (h : MF S w0 D y p r t F w) : At w (Ks r) r w := by
  obtain ⟨lo, rl, h1, h2⟩ := h.ex
  have hsplit : ({ y with lo := lo } : Ly).m p.1 (rl ++ r) = ({ y with lo := lo } : Ly).m p.1 rl ++ r := by simp [Ly.m]
  have h3 := h1.at_
  rw [hsplit] at h3
  exact (h3.sub (List.sublist_append_right _ _)).from fun q hq => ⟨q, hq, rfl⟩
theorem MF.at0 {p : PM} (h : MF S w0 D y p r t F w) : Mod D w0 w := by obtain ⟨lo, rl, h1, h2⟩ := h.ex; exact h1.at_.mod
theorem MF.src {p : PM} (h : MF S w0 D y p r t F w) : S.I t F w := by obtain ⟨lo, rl, h1, h2⟩ := h.ex; exact h1.src
end
/-- a slice that is one's own, its block among the known ones -/
def VecE {α : Type} (ro : List (Nat × List Value)) (E : Enc α) (s : Sl) (l : List α) : Prop :=
  s.len = l.length ∧ ((ro = [] ∧ s.p = none ∧ s.cap = 0 ∧ l = []) ∨ ∃ b rest, ro = [(b, E.cells l ++ rest)] ∧ s.p = some (b, 0) ∧ (E.cells l ++ rest).length = s.cap * E.n)
theorem VecE.nil {α : Type} (E : Enc α) : VecE [] E ⟨none, 0, 0⟩ [] := ⟨rfl, .inl ⟨rfl, rfl, rfl, rfl⟩⟩
theorem VecE.vec {α : Type} {ro : List (Nat × List Value)} {E : Enc α} {s : Sl} {l : List α} (h : VecE ro E s l) {w : World} (hb : ∀ p ∈ ro, Blk w p.1 p.2) : Vec w E s l :=
  ⟨h.1, h.2.imp (fun h => ⟨h.2.1, h.2.2.1, h.2.2.2⟩) fun ⟨b, rest, h1, h2, h3⟩ => ⟨b, rest, h2, hb (b, _) (by rw [h1]; simp), h3⟩⟩
theorem VecE.key {α : Type} {ro : List (Nat × List Value)} {E : Enc α} {s : Sl} {l : List α} (h : VecE ro E s l) {b : Nat} (hb : bk s b) : Ks ro b := by
  obtain ⟨o, hb⟩ := hb
  rcases h.2 with ⟨_, hp, _⟩ | ⟨b', rest, h1, h2, _⟩
  · rw [hp] at hb; cases hb
  · rw [h2] at hb; cases hb; exact ⟨_, by rw [h1]; exact List.mem_singleton.2 rfl, rfl⟩
theorem VecE.of_vec {α : Type} {w : World} {E : Enc α} {s : Sl} {l : List α} (h : Vec w E s l) : ∃ ro, VecE ro E s l ∧ (∀ p ∈ ro, Blk w p.1 p.2) ∧ (ro.map Prod.fst).Nodup ∧ ∀ p ∈ ro, bk s p.1 := by
  rcases h.own with ⟨h1, h2, h3⟩ | ⟨b, rest, h1, h2, h3⟩
  · exact ⟨[], ⟨h.len, .inl ⟨rfl, h1, h2, h3⟩⟩, by simp, by simp, by simp⟩
  · exact ⟨[(b, E.cells l ++ rest)], ⟨h.len, .inr ⟨b, rest, rfl, h1, h3⟩⟩, by simpa using h2, by simp, by simpa using ⟨0, h1⟩⟩
/-- append, with the known blocks -/
theorem _root_.Go.Vw.At.app {α : Type} {w0 w : World} {D : Nat → Prop} {m ro : List (Nat × List Value)} (hA : At w0 D (m ++ ro) w) {E : Enc α} {s x : Sl} {l l2 : List α} (hv : VecE ro E s l) (hr : RdS w E x l2) {e : TypeId} {n bytes : Nat} {zs : List LV} (hn : n = E.n) (hz : zs.length = E.n) (hlim : (l.length + l2.length + 1024) * (bytes + 1) ≤ 2 ^ 46)
    {K : Sl → World → Prop} (hK : ∀ s' ro' w', At w0 D (m ++ ro') w' → VecE ro' E s' (l ++ l2) → Mod (Ks ro) w w' → K s' w') : ap w e n bytes zs s x K := by
  have hvec := hv.vec (w := w) fun p hp => hA.own p (List.mem_append_right _ hp)
  refine hvec.app hr hn hz hlim fun s' w' hv' hbk' hM _ => ?_
  obtain ⟨ro', h1, h2, h3, h4⟩ := VecE.of_vec hv'
  have hM' : Mod (Ks ro) w w' := hM.mono fun b _ hb => hv.key hb
  have hnd := hA.nodup
  rw [List.map_append, List.nodup_append] at hnd
  have hdis : ∀ p ∈ m, ¬ Ks ro p.1 := by
    rintro p hp ⟨q, hq, e⟩
    exact hnd.2.2 _ (List.mem_map_of_mem hp) _ (List.mem_map_of_mem hq) e.symm
  refine hK s' ro' w' ⟨hA.mod.trans hM' (fun _ _ h => h) ?_, ?_, ?_, ?_⟩ h1 hM'
  · rintro b hb ⟨q, hq, rfl⟩; exact hA.wr q (List.mem_append_right _ hq) hb
  · intro p hp
    rcases List.mem_append.1 hp with hp | hp
    · exact hM'.blk (hA.own p (List.mem_append_left _ hp)) (hdis p hp)
    · exact h2 p hp
  · rw [List.map_append, List.nodup_append]
    refine ⟨hnd.1, h3, ?_⟩
    rintro a ha b hb rfl
    obtain ⟨p, hp, rfl⟩ := List.mem_map.1 ha
    obtain ⟨q, hq, e⟩ := List.mem_map.1 hb
    rcases hbk' q.1 (h4 q hq) with h | h
    · have := hv.key h; rw [e] at this; exact hdis p hp this
    · have := (hA.own p (List.mem_append_left _ hp)).lt; omega
  · intro p hp hlt
    rcases List.mem_append.1 hp with hp | hp
    · exact hA.wr p (List.mem_append_left _ hp) hlt
    · rcases hbk' p.1 (h4 p hp) with h | h
      · obtain ⟨q, hq, e⟩ := hv.key h
        rw [← e] at hlt ⊢; exact hA.wr q (List.mem_append_right _ hq) hlt
      · exact absurd hlt (by have := hA.mod.size; omega)
end Go.Proofs.Ytfhojgammfkabaa

/- A merge is run to its end. -/
namespace Go.Proofs.Ytfhojgammfkabaa
open Go.Vw

theorem runF_len {n : Nat} {en : Nat → Int} : ∀ (k : Nat) (Q : Nat → List Thing), (runF n en k Q).1.length ≤ k
  | 0, Q => by simp [runF]
  | k + 1, Q => by
    rw [runF]
    split
    · simp
    · split
      · simp
      · split
        · split
          · simp
          · have := runF_len (n := n) (en := en) k
            simp; exact this _
        · split
          · simp
          · have := runF_len (n := n) (en := en) k
            simp; exact this _
theorem runM_len {n : Nat} {en : Nat → Int} {Q : Nat → List Thing} : (runM n en Q).1.length ≤ remQ Q n := by
  unfold runM
  split
  · simp
  · exact runF_len _ _
theorem Tell.bg0 {σ : Type} {S : Srcs σ} {en : Nat → Int} {St : σ → (Nat → Option (List Thing)) → Prop} {tot : Nat} {Fin : (Nat → Option (List Thing)) → Prop} {p : PM} {t : σ} {c : Nat} {out : List Thing} {err : Int} (h : Tell S en St tot Fin p t c out err) :
    p.1.bg = false → p.1.win = 0 ∧ p.1.ov = false := by
  intro hb
  cases h with
  | start h1 h2 h3 h4 => exact ⟨h4, h2⟩
  | mid h1 => rw [h1] at hb; cases hb
  | over h1 h2 => rw [h2] at hb; cases hb
/-- a merge of played sources, as it is when it has been made -/
theorem start_of {f : Feeds} (hf : f.Ok) {w w4 : World} {F : Nat → Prop} (hI : f.I (fun _ => zFS) F w) (hbase : f.base ≤ w.heap.size) {ps : List PA} (hps : ps = (List.range f.n).map fun i => some (f.fb i, 0)) {y : Ly}
    (hA : At w (fun _ => False) (y.m (s0 ps.length) []) w4) (hy : Made y cmpV (ps.map nextV)) :
    Of (f.src hf) y ∧ MF (f.src hf) w F y (s0 f.n, []) [] (fun _ => zFS) F w4 ∧ Rel f.n f.St (s0 f.n) (fun _ => zFS) f.L 0 f.L := by
  have hpl : ps.length = f.n := by rw [hps]; simp
  rw [hpl] at hA
  have hkey : ∀ p ∈ y.m (s0 f.n) [], w.heap.size ≤ p.1 := fun p hp => Nat.not_lt.1 fun hlt => hA.wr p hp hlt
  refine ⟨⟨by show f.n = _; rw [hy.n]; simp [hpl], hy.p, by rw [hy.len, hy.n], by rw [hy.n]; exact hy.cap, fun i hi => ?_⟩, ⟨⟨y.lo, [], ⟨hA.weaken fun _ _ h => h.elim, ?_, (f.src hf).keep _ _ _ _ _ hI hA.mod (fun _ _ => id) (fun _ _ => id), Off.of (s := s0 f.n) fun p hp hg => ?_, fun _ _ h => h⟩, fun h => by cases h⟩, fun h => by cases h⟩, ?_⟩
  · have hi' : i < ps.length := by rw [hy.n] at hi; simpa using hi
    rw [hy.cf i (by simpa using hi')]
    subst hps
    have hif : i < f.n := by simpa using hi'
    simp [hif]; rfl
  · exact ⟨by rw [hy.n]; simp [s0, hpl], by rw [hy.n]; simp [s0, hpl]⟩
  · have := hkey p hp
    rcases hg with hg | hg
    · have := (f.src hf).lt _ _ _ _ hI hg; omega
    · have : p.1 < f.base := hg
      omega
  · refine ⟨by simp [s0], by simp [s0], fun i => some (f.L i), fun i hi => ⟨Nat.zero_le _, rfl, rfl, rfl, rfl⟩, fun i hi => by omega, fun i _ hi => ⟨rfl, rfl, ?_⟩⟩
    simp [s0, getB, List.getElem?_replicate, hi]
theorem run_ok {f : Feeds} (hf : f.Ok) {w : World} {l : Sl} {F : Nat → Prop} (hr : RdS w EP l ((List.range f.n).map fun i => some (f.fb i, 0))) (hI : f.I (fun _ => zFS) F w) (hn : f.n ≤ 64) (htot : remQ f.L f.n ≤ 1048576) (hbase : f.base ≤ w.heap.size)
    {K : Sl → Int → Bool → World → Prop} (hK : ∀ out w', RdS w' ET out (runM f.n f.en f.L).1 → (∀ b, bk out b → w.heap.size ≤ b) → Mod F w w' → K out (runM f.n f.en f.L).2 true w') :
    callK Try.prog 19 [.leaf (.sl l)] w (.tup [.leaf .sl, .leaf (.int .i64), .leaf .bool]) K := by
  refine go_winnowlaw11_run _ _ _ ?_
  unfold S_winnowlaw11_run
  refine made_ok hr (by simpa using hn) fun w4 y hA hy => ?_
  obtain ⟨hof, hmf, hrel⟩ := start_of hf hI hbase rfl hA hy
  have M4 : Mod (fun _ => False) w w4 := hA.mod
  refine join1 (a := .bool) (fun b w' => b = false ∧ w' = w4) (fun k hk => ifK_f rfl (hk _ _ ⟨rfl, rfl⟩)) ?_
  rintro _ w5 ⟨rfl, hw5⟩
  rw [hw5]
  refine ifK_f rfl ?_
  have hr4 := hr.keep M4 fun _ _ => id
  have hI4 : f.I (fun _ => zFS) F w4 := hmf.src
  have hpart : ∀ i, i ≤ f.n → remQ f.L i ≤ remQ f.L f.n := fun i hi => by
    have : ∀ k, remQ f.L i ≤ remQ f.L (i + k) := fun k => by
      induction k with
      | zero => exact Nat.le_refl _
      | succ k ih => rw [← Nat.add_assoc, remQ]; omega
    have h := this (f.n - i)
    rwa [Nat.add_sub_cancel' hi] at h
  refine join1 (a := .int .i64) (fun x w' => x = (remQ f.L f.n : Nat) ∧ w' = w4) (fun k hk => ?_) ?_
  · refine loop2 (k1 := .int .i64) (k2 := .int .i64) (fun m x w' => ∃ i : Nat, x = i ∧ i ≤ f.n ∧ m = (remQ f.L i : Nat) ∧ w' = w4) (fun _ x _ => f.n - x.toNat) rfl rfl ⟨0, rfl, by omega, rfl, rfl⟩ ?_
    rintro m x w6 ⟨i, rfl, hi, rfl, hw6⟩
    rw [hw6]
    refine ifK_intro (fun hlt => ?_) (fun hlt => ?_)
    · have hlt' : i < f.n := by rw [hr4.len] at hlt; simpa using hlt
      have hp : ((List.range f.n).map fun i => (some (f.fb i, 0) : PA))[i]? = some (some (f.fb i, 0)) := by simp [hlt']
      refine hr4.ix rfl rfl hp fun b o _ hc => ld_cell (k := .ptr) (some (f.fb i, 0)) (hc 0 (by decide)) (dr_some ?_)
      refine ld_cell (k := .sl) (f.sl i) (((hI4.blk i hlt').cell 0).trans rfl) ?_
      have h1 : (f.sl i).len = (f.L i).length := (hI4.rd i hlt').len
      have h2 := hpart (i + 1) hlt'
      rw [remQ] at h2
      have e1 : w64 (((remQ f.L i : Nat) : Int) + ((f.sl i).len : Int)) = ((remQ f.L (i + 1) : Nat) : Int) := by rw [h1, w64_in (by omega) (by omega), remQ]; omega
      rw [e1, set_step (by omega)]
      exact ⟨⟨i + 1, rfl, hlt', rfl, rfl⟩, by simp; omega⟩
    · have hge : i = f.n := by rw [hr4.len] at hlt; simp at hlt; omega
      subst hge
      exact hk _ _ ⟨rfl, rfl⟩
  · rintro _ w6 ⟨rfl, hw6⟩
    rw [hw6]
    have hyn : y.n = f.n := hof.n.symm
    refine join0 (fun _ => False) (fun k hk => ?_) fun _ h => h.elim
    refine loop2 (k1 := .sl) (k2 := .int .i64) (fun out x w' => ∃ (i : Nat) (p : PM) (t : Nat → FS) (F' : Nat → Prop) (ro : List (Nat × List Value)) (l rest : List Thing), x = i ∧ MF (f.src hf) w F y p ro t F' w' ∧ VecE ro ET out l ∧ Tell (f.src hf) f.en f.St (remQ f.L f.n) (fun _ => True) p t i rest (runM f.n f.en f.L).2 ∧ l ++ rest = (runM f.n f.en f.L).1 ∧ l.length = i)
      (fun _ x _ => remQ f.L f.n + 1 - x.toNat) rfl rfl ⟨0, _, _, F, [], [], (runM f.n f.en f.L).1, rfl, hmf, VecE.nil _, .start rfl rfl rfl rfl hrel rfl rfl (fun _ _ => trivial), rfl, rfl⟩ ?_
    rintro out x w7 ⟨i, p, t, F', ro, l, rest, rfl, hm, hv, ht, hlr, hli⟩
    have hle : i ≤ remQ f.L f.n := by
      have := runM_len (n := f.n) (en := f.en) (Q := f.L)
      rw [← hlr, List.length_append] at this; omega
    refine ifK_t (by simp; omega) ?_
    refine next_ok hof (cmp := cmpT) (by rw [hy.cv]; exact compare_ok) (by omega) ht.bg0 hm fun w8 F8 hm8 => ?_
    obtain ⟨n1, n2⟩ := next_tell (f.lists hf) ht
    rw [hyn] at hm8 ⊢
    have hA8 := hm8.rest
    refine hA8.alK fun b31 w9 hb31 hA9 _ => ?_
    have hA9' : At w8 (Ks ro) ((b31, zT) :: ro) w9 := hA9.perm (List.perm_append_comm (l₁ := [_]))
    refine hA9'.st 0 rfl (Nat.le_refl 2) fun w10 hA10 _ => ?_
    have hA10' : At w8 (Ks ro) ((b31, [.int .i64 (nextM (f.src hf) cmpT f.n p t).1.1.1, .int .i64 (nextM (f.src hf) cmpT f.n p t).1.1.2]) :: ro) w10 := hA10
    cases hrest : rest with
    | nil =>
      obtain ⟨r1, r2, r3⟩ := n2 hrest
      have r1 : (nextM (f.src hf) cmpT f.n p t).1 = ((0, 0), false, (runM f.n f.en f.L).2) := r1
      have hm10 := hm8.law (hA10'.sub (List.sublist_cons_self _ _))
      rw [r1]
      refine ifK_t rfl ?_
      have hl : l = (runM f.n f.en f.L).1 := by rw [← hlr, hrest, List.append_nil]
      have hb := hm10.rest
      have hvec := hv.vec (w := w10) fun q hq => hb.own q hq
      rw [hl] at hvec
      refine hK out w10 hvec.rd (fun b hbk => ?_) hm10.at0
      obtain ⟨q, hq, e⟩ := hv.key hbk
      obtain ⟨lo, rl, h1, _⟩ := hm10.ex
      rw [← e]
      refine Nat.not_lt.1 fun hlt => ?_
      have hq' : q ∈ ({ y with lo := lo } : Ly).m (nextM (f.src hf) cmpT f.n p t).2.1.1 (rl ++ ro) := by simp [Ly.m, hq]
      have hF0 := h1.at_.wr q hq' hlt
      have : ∃ i, i < f.n ∧ q.1 = f.fb i := (hI.F _).1 hF0
      exact h1.off.all _ q hq' (.inl ((h1.src.F _).2 this))
    | cons x rest' =>
      obtain ⟨r1, r2, r3⟩ := n1 x rest' hrest
      have r1 : (nextM (f.src hf) cmpT f.n p t).1 = (x, true, 0) := r1
      rw [r1] at hA10' ⊢
      refine ifK_f rfl (hA10'.ld 0 (k := .int .i64) x.1 rfl rfl (hA10'.ld 0 (k := .int .i64) x.2 rfl rfl ?_))
      refine hA10'.alK fun b36 w11 hb36 hA11 _ => ?_
      have hA11' : At w8 (Ks ro) ([(b31, [.int .i64 x.1, .int .i64 x.2]), (b36, [.int .i64 x.1, .int .i64 x.2])] ++ ro) w11 :=
        hA11.perm (.cons _ (List.perm_append_comm (l₁ := [_])))
      have hx11 : RdS w11 ET ⟨some (b36, 0), 1, 1⟩ [x] := rd_one (hA11'.blk (i := 1) rfl)
      refine hA11'.app hv hx11 rfl rfl (by simp; omega) fun out' ro' w12 hA12 hv12 _ => ?_
      have hm12 := hm8.law (hA12.sub (List.sublist_append_right _ _))
      rw [set_step (by omega)]
      exact ⟨⟨i + 1, _, _, F8, ro', l ++ [x], rest', rfl, hm12, hv12, r2, by rw [← hlr, hrest]; simp, by simp [hli]⟩, by simp; omega⟩
end Go.Proofs.Ytfhojgammfkabaa

/- Sources out of lists; the little merge. -/
namespace Go.Proofs.Ytfhojgammfkabaa
open Go.Vw

def mkF (xs : List (Sl × Int)) (Ls : List (List Thing)) (fbs : List Nat) (base : Nat) : Feeds := ⟨xs.length, fun i => fbs[i]?.getD 0, fun i => (xs[i]?.map (·.1)).getD ⟨none, 0, 0⟩, fun i => Ls[i]?.getD [], fun i => (xs[i]?.map (·.2)).getD 0, base⟩
theorem feeds_f {w : World} {s : Sl} {xs : List (Sl × Int)} (hr : RdS w ES s xs) (Ls : List (List Thing)) (hl : Ls.length = xs.length) (hrd : ∀ (i : Nat) x l, xs[i]? = some x → Ls[i]? = some l → RdS w ET x.1 l) (hlen : xs.length ≤ 1048576) (hL : ∀ l ∈ Ls, l.length ≤ 1152921504606846976)
    (base : Nat) (hbase : base ≤ w.heap.size) (hlow : ∀ x ∈ xs, ∀ b, rk x.1 b → b < base) {K : Sl → World → Prop}
    (hK : ∀ out w' fbs, (mkF xs Ls fbs base).Ok → (mkF xs Ls fbs base).I (fun _ => zFS) (fun b => ∃ i, i < xs.length ∧ b = (mkF xs Ls fbs base).fb i) w' → Vec w' EP out ((List.range xs.length).map fun i => some ((mkF xs Ls fbs base).fb i, 0)) →
      (∀ b, bk out b → w.heap.size ≤ b ∧ ∀ i, i < xs.length → b ≠ (mkF xs Ls fbs base).fb i) → (∀ i, i < xs.length → w.heap.size ≤ (mkF xs Ls fbs base).fb i) → Mod (fun _ => False) w w' → K out w') :
    callK Try.prog 20 [.leaf (.sl s)] w (.one (.leaf .sl)) K := by
  refine feeds_ok hr hlen fun out w' fbs hM hfl hnd hge hblk hv hbk => ?_
  have hfb : ∀ i, i < xs.length → fbs[i]? = some ((mkF xs Ls fbs base).fb i) := fun i hi => by
    show fbs[i]? = some (fbs[i]?.getD 0)
    rw [List.getElem?_eq_getElem (by omega)]; rfl
  have hmem : ∀ i, i < xs.length → (mkF xs Ls fbs base).fb i ∈ fbs := fun i hi => List.mem_of_getElem? (hfb i hi)
  have hx : ∀ i (hi : i < xs.length), xs[i]? = some xs[i] := fun i hi => List.getElem?_eq_getElem hi
  have hLi : ∀ i (hi : i < xs.length), Ls[i]? = some ((mkF xs Ls fbs base).L i) := fun i hi => by
    show Ls[i]? = some (Ls[i]?.getD [])
    rw [List.getElem?_eq_getElem (by omega)]; rfl
  have hsl : ∀ i (hi : i < xs.length), (mkF xs Ls fbs base).sl i = xs[i].1 := fun i hi => by
    show (xs[i]?.map (·.1)).getD _ = _
    rw [hx i hi]; rfl
  have hen : ∀ i (hi : i < xs.length), (mkF xs Ls fbs base).en i = xs[i].2 := fun i hi => by
    show (xs[i]?.map (·.2)).getD _ = _
    rw [hx i hi]; rfl
  have hps : fbs.map (fun b => (some (b, 0) : PA)) = (List.range xs.length).map fun i => some ((mkF xs Ls fbs base).fb i, 0) := by
    apply List.ext_getElem?
    intro i
    simp only [List.getElem?_map]
    by_cases hi : i < xs.length
    · rw [hfb i hi]; simp [hi]
    · rw [List.getElem?_eq_none (by omega), List.getElem?_eq_none (by simp; omega)]; rfl
  rw [hps] at hv
  refine hK out w' fbs ⟨?_, ?_, ?_, ?_⟩ ⟨fun b => Iff.rfl, ?_, ?_, fun i _ => Nat.zero_le _⟩ hv (fun b hb => ⟨(hbk b hb).1, fun i hi e => (hbk b hb).2 (e ▸ hmem i hi)⟩) (fun i hi => hge _ (hmem i hi)) hM
  · intro i j hi hj e
    have hi : i < xs.length := hi
    have hj : j < xs.length := hj
    exact (List.getElem?_inj (by omega : i < fbs.length) hnd).1 ((hfb i hi).trans (by rw [e]; exact (hfb j hj).symm))
  · intro i hi
    exact Nat.le_trans hbase (hge _ (hmem i hi))
  · intro i hi b hb
    have hi' : i < xs.length := hi
    rw [hsl i hi'] at hb
    exact hlow _ (List.getElem_mem hi') b hb
  · intro i hi
    exact hL _ (List.mem_of_getElem? (hLi i hi))
  · intro i hi
    have hi' : i < xs.length := hi
    have := hblk i _ _ (hfb i hi') (hx i hi')
    show Blk w' _ [(LV.sl ((mkF xs Ls fbs base).sl i)).toV, .int .i64 ((mkF xs Ls fbs base).en i), .int .i64 ((0 : Nat) : Int), .int .i64 0, .bool false, .bool false]
    rw [hsl i hi', hen i hi']; exact this
  · intro i hi
    have hi' : i < xs.length := hi
    rw [hsl i hi']
    exact (hrd i _ _ (hx i hi') (hLi i hi')).keep hM fun _ _ => id
def headL : List (List Thing) := [[(1, 1), (4, 2)], [(1, 3), (2, 4)]]
theorem head_ok {w : World} {K : Bool → World → Prop} (hK : ∀ w', Mod (fun _ => False) w w' → K true w') : callK Try.prog 22 [] w (.one (.leaf .bool)) K := by
  refine go_winnowlaw11_head _ _ ?_
  unfold S_winnowlaw11_head
  refine (At.init w fun _ => False).alK fun b1 w1 hb1 h1 _ => h1.alK fun b3 w2 hb3 h2 _ => ?_
  refine h2.st 1 rfl (show (2 : Nat) ≤ 2 by decide) fun w3 h3 _ => ?_
  refine h3.alK fun b6 w4 hb6 h4 _ => h4.alK fun b8 w5 hb8 h5 _ => ?_
  refine h5.st 3 rfl (show (2 : Nat) ≤ 2 by decide) fun w6 h6 _ => ?_
  have h6 : At w (fun _ => False) [(b1, ET.cells [(1, 1), (4, 2)]), (b3, [(LV.sl ⟨some (b1, 0), 2, 2⟩).toV, .int .i64 0]), (b6, ET.cells [(1, 3), (2, 4)]), (b8, [(LV.sl ⟨some (b6, 0), 2, 2⟩).toV, .int .i64 0])] w6 := h6
  refine h6.ld 1 (k := .sl) ⟨some (b1, 0), 2, 2⟩ rfl rfl (h6.ld 1 (k := .int .i64) 0 rfl rfl (h6.ld 3 (k := .sl) ⟨some (b6, 0), 2, 2⟩ rfl rfl (h6.ld 3 (k := .int .i64) 0 rfl rfl ?_)))
  refine h6.alK fun b15 w7 hb15 h7 _ => ?_
  have h7 : At w (fun _ => False) [(b1, ET.cells [(1, 1), (4, 2)]), (b3, [(LV.sl ⟨some (b1, 0), 2, 2⟩).toV, .int .i64 0]), (b6, ET.cells [(1, 3), (2, 4)]), (b8, [(LV.sl ⟨some (b6, 0), 2, 2⟩).toV, .int .i64 0]), (b15, ES.cells [(⟨some (b1, 0), 2, 2⟩, 0), (⟨some (b6, 0), 2, 2⟩, 0)])] w7 := h7
  have rdb : ∀ {α : Type} (E : Enc α) (l : List α) (b : Nat), Blk w7 b (E.cells l) → RdS w7 E ⟨some (b, 0), l.length, l.length⟩ l := fun E l b hb => ⟨rfl, .inr ⟨b, 0, rfl, fun i hi => by rw [hb.cell, Nat.zero_add]⟩, Nat.le_refl _⟩
  have l1 := (h7.blk (i := 0) rfl).lt
  have l6 := (h7.blk (i := 2) rfl).lt
  refine feeds_f (rdb ES [(⟨some (b1, 0), 2, 2⟩, 0), (⟨some (b6, 0), 2, 2⟩, 0)] b15 (h7.blk (i := 4) rfl)) headL rfl ?_ (show (2 : Nat) ≤ 1048576 by decide) ?_ w7.heap.size (Nat.le_refl _) ?_ fun out w8 fbs hok hI hv hbk hge M8 => ?_
  · intro i x l hx hl
    match i with
    | 0 => cases hx; cases hl; exact rdb ET [(1, 1), (4, 2)] b1 (h7.blk (i := 0) rfl)
    | 1 => cases hx; cases hl; exact rdb ET [(1, 3), (2, 4)] b6 (h7.blk (i := 2) rfl)
    | i + 2 => cases hx
  · intro l hl
    simp [headL] at hl
    rcases hl with rfl | rfl <;> simp
  · intro x hx b hb
    obtain ⟨_, o, hb⟩ := hb
    simp at hx
    rcases hx with rfl | rfl
    · cases hb; exact l1
    · cases hb; exact l6
  have hA8 := h7.keep0 M8 fun _ => id
  refine run_ok hok (hv.rd) hI (by show (2 : Nat) ≤ 64; decide) (by show (4 : Nat) ≤ 1048576; decide) M8.size fun out2 w9 hout hob M9 => ?_
  have hrun : runM (mkF [(⟨some (b1, 0), 2, 2⟩, 0), (⟨some (b6, 0), 2, 2⟩, 0)] headL fbs w7.heap.size).n (mkF [(⟨some (b1, 0), 2, 2⟩, 0), (⟨some (b6, 0), 2, 2⟩, 0)] headL fbs w7.heap.size).en (mkF [(⟨some (b1, 0), 2, 2⟩, 0), (⟨some (b6, 0), 2, 2⟩, 0)] headL fbs w7.heap.size).L = ([(1, 1), (1, 3), (2, 4), (4, 2)], 0) := by rfl
  rw [hrun] at hout ⊢
  have hM : Mod (fun _ => False) w w9 := Mod.fresh (h7.mod.trans M8 (fun _ _ h => h) (fun _ _ h => h)) M9 fun x hx hb => by
    obtain ⟨i, hi, e⟩ := hb
    have := hge i hi
    have := h7.mod.size
    omega
  refine join1 (a := .bool) (fun b w' => b = true ∧ w' = w9) (fun k hk => ?_) ?_
  · refine ifK_t rfl (ifK_t rfl (ifK_t (by rw [hout.len]; rfl) ?_))
    refine hout.ix rfl (k := 0) rfl rfl fun b o _ hc => ld_cell (k := .int .i64) 1 (hc 1 (by decide)) (ifK_t rfl ?_)
    refine hout.ix rfl (k := 1) rfl rfl fun b o _ hc => ld_cell (k := .int .i64) 3 (hc 1 (by decide)) (ifK_t rfl ?_)
    refine hout.ix rfl (k := 2) rfl rfl fun b o _ hc => ld_cell (k := .int .i64) 4 (hc 1 (by decide)) (ifK_t rfl ?_)
    refine hout.ix rfl (k := 3) rfl rfl fun b o _ hc => ld_cell (k := .int .i64) 2 (hc 1 (by decide)) (hk _ _ ⟨rfl, rfl⟩)
  · rintro _ w10 ⟨rfl, hw⟩
    rw [hw]; exact hK _ hM
end Go.Proofs.Ytfhojgammfkabaa
