/- CI, CJ, CK, CL in one text. -/
import Derived.Test.YtfhojgammfkabaaCH
/- The law's lists of records, each with a mark behind it. -/
namespace Go.Proofs.Ytfhojgammfkabaa.Rc
open Go.Vw

def markT : Thing := (-9, [], [])
structure Rt where
  b : Nat
  cap : Nat
  vals : List Thing
  rest : List Value
def Rt.sl (i : Rt) : Sl := ⟨some (i.b, 0), i.vals.length, i.cap⟩
def Rt.blk (i : Rt) : Nat × List Value := (i.b, ET.cells (i.vals ++ [markT]) ++ i.rest)
def Rt.Ok (i : Rt) : Prop := (ET.cells (i.vals ++ [markT]) ++ i.rest).length = i.cap * 3
theorem ET_len (l : List Thing) : (ET.cells l).length = l.length * 3 := by rw [ET.cells_length]; rfl
theorem Rt.Ok.lt {i : Rt} (h : i.Ok) : i.vals.length < i.cap := by
  unfold Rt.Ok at h
  rw [List.length_append, ET_len, List.length_append] at h
  simp at h; omega
theorem Rt.rd {i : Rt} (h : i.Ok) {w : World} (hb : Blk w i.b (ET.cells (i.vals ++ [markT]) ++ i.rest)) : RdS w ET i.sl i.vals :=
  ⟨rfl, .inr ⟨i.b, 0, rfl, fun j hj => by rw [hb.cell, Nat.zero_add, ET.cells_append, List.append_assoc, List.getElem?_append_left hj]⟩, Nat.le_of_lt h.lt⟩
/-- with the mark -/
theorem Rt.rd1 {i : Rt} (h : i.Ok) {w : World} (hb : Blk w i.b (ET.cells (i.vals ++ [markT]) ++ i.rest)) : RdS w ET ⟨some (i.b, 0), i.vals.length + 1, i.cap⟩ (i.vals ++ [markT]) :=
  ⟨by simp, .inr ⟨i.b, 0, rfl, fun j hj => by rw [hb.cell, Nat.zero_add, List.getElem?_append_left hj]⟩, h.lt⟩
theorem Rt.cut1 {i : Rt} (h : i.Ok) {n : Int} (hn : n = ((i.vals.length + 1 : Nat) : Int)) {K : Sl → Prop} (hK : K ⟨some (i.b, 0), i.vals.length + 1, i.cap⟩) : slx i.sl 3 none (some n) none K := by
  have hlt := h.lt
  subst hn
  have hne : ¬ i.cap = 0 := by omega
  have e : i.sl.cut 3 0 (i.vals.length + 1) i.cap = ⟨some (i.b, 0), i.vals.length + 1, i.cap⟩ := by simp [Sl.cut, Rt.sl, hne]
  exact ⟨0, i.vals.length + 1, i.cap, rfl, rfl, rfl, Nat.zero_le _, hlt, Nat.le_refl _, by rw [e]; exact hK⟩
theorem item_cut {rl : List (Nat × List Value)} {s : Sl} {vals : List Thing} (hv : VecE rl ET s (vals ++ [markT])) : ∃ it : Rt, it.Ok ∧ it.vals = vals ∧ rl = [it.blk] ∧ ∀ K : Sl → Prop, K it.sl → slx s 3 none (some (vals.length : Int)) none K := by
  obtain ⟨hl, h⟩ := hv
  rcases h with ⟨_, _, _, h⟩ | ⟨b, rest, h1, h2, h3⟩
  · exact absurd h (by simp)
  · have hok : (⟨b, s.cap, vals, rest⟩ : Rt).Ok := h3
    have hlt := hok.lt
    simp only at hlt
    refine ⟨⟨b, s.cap, vals, rest⟩, hok, rfl, h1, fun K hK => ?_⟩
    have hne : ¬ s.cap = 0 := by omega
    have e : s.cut 3 0 vals.length s.cap = ⟨some (b, 0), vals.length, s.cap⟩ := by simp [Sl.cut, hne, h2]
    exact ⟨0, vals.length, s.cap, rfl, rfl, rfl, Nat.zero_le _, by omega, Nat.le_refl _, by rw [e]; exact hK⟩
/-- all lists, one behind the other, no longer than these -/
theorem take_flat {Ls : List (List Thing)} {i : Nat} {L : List Thing} (h : Ls[i]? = some L) : L.length ≤ Ls.flatten.length := by
  have hi := (List.getElem?_eq_some_iff.1 h).1
  have h1 : Ls.flatten = (Ls.take i).flatten ++ (Ls.drop i).flatten := by rw [← List.flatten_append, List.take_append_drop]
  have h2 : Ls[i] = L := by rw [List.getElem?_eq_getElem hi] at h; exact Option.some.inj h
  rw [h1, List.drop_eq_getElem_cons hi, List.flatten_cons, List.length_append, List.length_append, h2]
  omega
/-- the copies are made -/
theorem copies_ok {w : World} {s : Sl} {xs : List Sl} {Ls : List (List Thing)} (h : LsAt w s xs Ls) (hn : Ls.length ≤ 1048576) (htot : Ls.flatten.length ≤ 1048576) {k : Sl → World → Prop}
    (hK : ∀ g w' (its : List Rt) ro, At w (fun _ => False) (its.map Rt.blk ++ ro) w' → VecE ro ESl g (its.map Rt.sl) → its.map Rt.vals = Ls → (∀ i ∈ its, i.Ok) → k g w') :
    loopL [.sl, .int .i64] (fun g4 i5 w_6 again3 =>
      ifK (decide (i5 < (s.len : Int)))
      (ix s 1 i5 fun b7 o8 =>
        Go.Vw.ld w_6 .sl b7 o8 fun a9 =>
        ap w_6 91 3 40 [.int .i64 0, .str [], .str []] (⟨none, 0, 0⟩) a9 fun a10 w_11 =>
        Go.Vw.al w_11 91 [.int .i64 (-9), .str [], .str []] fun b12 w_13 =>
        ap w_13 91 3 40 [.int .i64 0, .str [], .str []] a10 (⟨some (b12, 0), 1, 1⟩) fun a14 w_15 =>
        ix s 1 i5 fun b16 o17 =>
        Go.Vw.ld w_15 .sl b16 o17 fun a18 =>
        slx a14 3 none (some (a18.len : Int)) none fun s19 =>
        Go.Vw.al w_15 89 [.sl s19] fun b20 w_21 =>
        ap w_21 89 1 24 [.sl (⟨none, 0, 0⟩)] g4 (⟨some (b20, 0), 1, 1⟩) fun a22 w_23 =>
        again3 a22 (w64 (i5 + 1)) w_23)
      (k g4 w_6)) [.sl (⟨none, 0, 0⟩), .int .i64 0] w := by
  have hsl : (s.len : Int) = Ls.length := by rw [h.rd.len, h.len]
  rw [hsl]
  refine loop2 (k1 := .sl) (k2 := .int .i64) (fun g x w' => ∃ (i : Nat) (its : List Rt) (ro : List (Nat × List Value)), x = i ∧ i ≤ Ls.length ∧ At w (fun _ => False) (its.map Rt.blk ++ ro) w' ∧ VecE ro ESl g (its.map Rt.sl) ∧ its.map Rt.vals = Ls.take i ∧ ∀ i ∈ its, i.Ok) (fun _ x _ => Ls.length - x.toNat) rfl rfl
    ⟨0, [], [], rfl, Nat.zero_le _, At.init _ _, VecE.nil _, by simp, by simp⟩ ?_
  rintro g x w6 ⟨i, its, ro, rfl, hi, hA, hv, hvals, hok⟩
  refine ifK_intro (fun hlt => ?_) (fun hlt => ?_)
  rotate_left
  · have hge : i = Ls.length := Nat.le_antisymm hi (dge hlt)
    subst hge
    rw [List.take_length] at hvals
    exact hK _ _ its ro hA hv hvals hok
  have hlt' : i < Ls.length := dlt hlt
  obtain ⟨L, hL⟩ : ∃ L, Ls[i]? = some L := ⟨_, List.getElem?_eq_getElem hlt'⟩
  obtain ⟨sx, hsx⟩ : ∃ sx, xs[i]? = some sx := ⟨_, List.getElem?_eq_getElem (by rw [← h.len]; exact hlt')⟩
  have hLl := take_flat hL
  have hil : its.length = i := by
    have := congrArg List.length hvals
    rw [List.length_map, List.length_take] at this; omega
  have hx := (h.each i sx L hsx hL).keep hA.mod fun _ _ => id
  refine (h.rd.keep hA.mod fun _ _ => id).ix rfl rfl hsx fun b o _ hc => ld_cell (k := .sl) sx (hc 0 (by decide)) ?_
  have hA0 : At w (fun _ => False) ((its.map Rt.blk ++ ro) ++ []) w6 := by rw [List.append_nil]; exact hA
  refine hA0.app (VecE.nil ET) hx rfl rfl (by simp; omega) fun a10 r1 w11 hA11 hv11 _ => ?_
  refine hA11.alK fun b12 w13 _ hA13 _ => ?_
  have hA13 : At w (fun _ => False) (((its.map Rt.blk ++ ro) ++ [(b12, recC markT)]) ++ r1) w13 := hA13.perm (perm_tail3 _ _ _)
  have hx13 : RdS w13 ET ⟨some (b12, 0), 1, 1⟩ [markT] := rd_one (hA13.own (b12, recC markT) (by simp))
  refine hA13.app hv11 hx13 rfl rfl (by simp; omega) fun a14 r2 w15 hA15 hv15 _ => ?_
  rw [List.nil_append] at hv15
  refine (h.rd.keep hA15.mod fun _ _ => id).ix rfl rfl hsx fun b o _ hc => ld_cell (k := .sl) sx (hc 0 (by decide)) ?_
  obtain ⟨it, io, iv, rfl, hcut⟩ := item_cut hv15
  rw [(h.each i sx L hsx hL).len]
  refine hcut _ ?_
  refine hA15.alK fun b20 w21 _ hA21 _ => ?_
  have hA21 : At w (fun _ => False) ((((its ++ [it]).map Rt.blk) ++ [(b20, [(LV.sl it.sl).toV])]) ++ ro) w21 := by
    have h1 := hA21.sub (m' := ((its.map Rt.blk ++ ro) ++ [it.blk]) ++ [(b20, [(LV.sl it.sl).toV])]) (List.Sublist.append_right (List.Sublist.append_right (List.sublist_append_left _ _) _) _)
    refine h1.perm ?_
    rw [List.map_append]
    exact ((List.Perm.append_right _ (perm_tail3 _ _ _)).trans (perm_tail3 _ _ _)).symm
  have hx21 : RdS w21 ESl ⟨some (b20, 0), 1, 1⟩ [it.sl] := rd_one (hA21.own (b20, [(LV.sl it.sl).toV]) (by simp))
  refine hA21.app hv hx21 rfl rfl (by simp; omega) fun a22 ro' w23 hA23 hv23 _ => ?_
  rw [set_step (by omega)]
  refine ⟨⟨i + 1, its ++ [it], ro', rfl, hlt', hA23.sub (List.Sublist.append_right (List.sublist_append_left _ _) _), by rw [List.map_append]; exact hv23, ?_, ?_⟩, by simp; omega⟩
  · rw [List.map_append, hvals, List.take_add_one, hL]; simp [iv]
  · intro z hz
    rcases List.mem_append.1 hz with hz | hz
    · exact hok z hz
    · simp at hz; rw [hz]; exact io
end Go.Proofs.Ytfhojgammfkabaa.Rc

/- The law's loops over records: an answer is written over and grown; the lists are bumped. -/
namespace Go.Proofs.Ytfhojgammfkabaa.Rc
open Go.Vw

theorem spoil_ok {w : World} {a : Sl} {l : List Thing} (hv : Vec w ET a l) (hl : l.length ≤ 1048576) {K : World → Prop} (hK : ∀ w', Mod (bk a) w w' → K w') :
    joinK [] (fun k48 =>
      loopL [.int .i64] (fun i50 w_51 again49 =>
        ifK (decide (i50 < (a.len : Int)))
        (ix a 3 i50 fun b52 o53 =>
          Go.Vw.st w_51 b52 o53 [.int .i64 (-7), .str [], .str []] fun w_54 =>
          again49 (w64 (i50 + 1)) w_54)
        (k48 w_51)) [.int .i64 0] w) fun w_55 =>
    joinK [] (fun k56 =>
      loopL [.sl, .int .i64] (fun a58 i59 w_60 again57 =>
        ifK (decide (i59 < 64))
        (Go.Vw.al w_60 91 [.int .i64 (-8), .str [], .str []] fun b61 w_62 =>
          ap w_62 91 3 40 [.int .i64 0, .str [], .str []] a58 (⟨some (b61, 0), 1, 1⟩) fun a63 w_64 =>
          again57 a63 (w64 (i59 + 1)) w_64)
        (k56 w_60)) [.sl a, .int .i64 0] w_55) fun w_65 => K w_65 := by
  refine join0 (fun w' => ∃ l', Vec w' ET a l' ∧ l'.length = l.length ∧ Mod (bk a) w w') (fun k hk => ?_) ?_
  · refine loop1 (k := .int .i64) (fun x w' => ∃ (i : Nat) (l' : List Thing), x = i ∧ i ≤ l.length ∧ Vec w' ET a l' ∧ l'.length = l.length ∧ Mod (bk a) w w') (fun x _ => l.length - x.toNat) rfl ⟨0, l, rfl, Nat.zero_le _, hv, rfl, Mod.refl _ _⟩ ?_
    rintro x w1 ⟨i, l', rfl, hi, hv1, hl1, M1⟩
    rw [hv.len]
    refine ifK_intro (fun hlt => ?_) (fun hlt => hk _ ⟨l', hv1, hl1, M1⟩)
    have hlt' : i < l.length := dlt hlt
    obtain ⟨z, hz⟩ : ∃ z, l'[i]? = some z := ⟨_, List.getElem?_eq_getElem (by omega)⟩
    obtain ⟨ba, oa, hpa, hla, _⟩ := hv1.rd.at hz
    refine ix_some (hc := hv1.rd.has) hpa (by omega) (by omega) ?_
    have hoff : oa + (i : Int).toNat * 3 = oa + i * ET.n + 0 := by simp [ET]
    rw [hoff]
    refine hv1.set (y := (-7, [], [])) hz hpa (Nat.le_refl 3) rfl fun w2 hv2 M2 => ?_
    rw [set_step (by omega)]
    exact ⟨⟨i + 1, _, rfl, hlt', hv2, by simp [hl1], M1.trans M2 (fun _ _ h => h) (fun _ _ h => h)⟩, by simp; omega⟩
  · rintro w1 ⟨l1, hv1, hl1, M1⟩
    refine join0 (fun w' => Mod (bk a) w w') (fun k hk => ?_) fun w' h => hK w' h
    refine loop2 (k1 := .sl) (k2 := .int .i64) (fun s x w' => ∃ (i : Nat) (l' : List Thing), x = i ∧ i ≤ 64 ∧ Vec w' ET s l' ∧ l'.length = l.length + i ∧ Mod (bk a) w w' ∧ ∀ b, bk s b → bk a b ∨ w.heap.size ≤ b) (fun _ x _ => 64 - x.toNat) rfl rfl
      ⟨0, l1, rfl, by omega, hv1, hl1, M1, fun b hb => .inl hb⟩ ?_
    rintro s x w2 ⟨i, l', rfl, hi, hv2, hl2, M2, hb2⟩
    refine ifK_intro (fun hlt => ?_) (fun hlt => hk _ M2)
    have hlt' : i < 64 := Int.ofNat_lt.1 (of_decide_eq_true hlt)
    refine (At.init w2 fun _ => False).alK fun b61 w3 _ hA3 M3 => ?_
    have hx : RdS w3 ET ⟨some (b61, 0), 1, 1⟩ [(-8, [], [])] := rd_one (hA3.blk (i := 0) rfl)
    refine (hv2.keep M3 fun _ _ => id).app hx rfl rfl (by simp; omega) fun s' w4 hv4 hb4 M4 _ => ?_
    rw [set_step (by omega)]
    have M3' : Mod (bk a) w w3 := M2.trans M3 (fun _ _ h => h) fun _ _ h => h.elim
    refine ⟨⟨i + 1, _, rfl, hlt', hv4, by simp [hl2]; omega, M3'.trans M4 (fun _ _ h => h) fun x hx h => (hb2 x h).elim id fun h => by omega, fun b hb => ?_⟩, by simp; omega⟩
    rcases hb4 b hb with h | h
    · exact hb2 b h
    · have := M3'.size; exact .inr (by omega)
/-- a list of the law's own -/
structure Gs where
  bo : Nat
  cp : Nat
  mkS : Sl
  rest : List Value
def Gs.s (g : Gs) (n : Nat) : Sl := ⟨some (g.bo, 0), n, g.cp⟩
def Gs.blk (g : Gs) (sls : List Sl) : Nat × List Value := (g.bo, ESl.cells (sls ++ [g.mkS]) ++ g.rest)
def Gs.Ok (g : Gs) (sls : List Sl) : Prop := (ESl.cells (sls ++ [g.mkS]) ++ g.rest).length = g.cp
theorem Gs.Ok.lt {g : Gs} {sls : List Sl} (h : g.Ok sls) : sls.length < g.cp := by
  unfold Gs.Ok at h
  rw [List.length_append, ESl.cells_length, List.length_append] at h
  simp [ESl] at h; omega
theorem Gs.rd {g : Gs} {sls : List Sl} (h : g.Ok sls) {w : World} (hb : Blk w g.bo (ESl.cells (sls ++ [g.mkS]) ++ g.rest)) : RdS w ESl (g.s sls.length) sls :=
  ⟨rfl, .inr ⟨g.bo, 0, rfl, fun j hj => by rw [hb.cell, Nat.zero_add, ESl.cells_append, List.append_assoc, List.getElem?_append_left hj]⟩, Nat.le_of_lt h.lt⟩
theorem Gs.rdM {g : Gs} {sls : List Sl} (h : g.Ok sls) {w : World} (hb : Blk w g.bo (ESl.cells (sls ++ [g.mkS]) ++ g.rest)) : RdS w ESl ⟨some (g.bo, sls.length), 1, g.cp - sls.length⟩ [g.mkS] := by
  have hlt := h.lt
  refine ⟨rfl, .inr ⟨g.bo, sls.length, rfl, fun j hj => ?_⟩, by show 1 ≤ g.cp - sls.length; omega⟩
  have e : (ESl.cells sls).length = sls.length := by rw [ESl.cells_length]; simp [ESl]
  rw [hb.cell, ESl.cells_append, List.append_assoc, List.getElem?_append_right (by omega), e, Nat.add_sub_cancel_left, List.getElem?_append_left hj]
def bump (x : Thing) : Thing := (w64 (x.1.tdiv 2), x.2.1, x.2.2 ++ [120])
def Rt.bump (i : Rt) : Rt := { i with vals := i.vals.map Rc.bump }
theorem Rt.bump_sl (i : Rt) : i.bump.sl = i.sl := by simp [Rt.bump, Rt.sl]
theorem Rt.Ok.bump {i : Rt} (h : i.Ok) : i.bump.Ok := by
  unfold Rt.Ok Rt.bump at *
  rw [List.length_append, ET_len, List.length_append, List.length_map] at *
  exact h
/-- one list is bumped -/
theorem bump_ok {w0 w : World} {D : Nat → Prop} {m : List (Nat × List Value)} {it : Rt} (hA : At w0 D (m ++ [it.blk]) w) (hok : it.Ok) {g : Gs} {sls : List Sl} (hg : g.Ok sls) (hgm : g.blk sls ∈ m) {i : Nat} (hi : sls[i]? = some it.sl) (hl : it.vals.length ≤ 1048576) (hval : ∀ x ∈ it.vals, x.2.2.length ≤ 1048576) {K : World → Prop}
    (hK : ∀ w', At w0 D (m ++ [it.bump.blk]) w' → K w') :
    joinK [] (fun k116 =>
      loopL [.int .i64] (fun k118 w_119 again117 =>
        ix (g.s sls.length) 1 (i : Int) fun b120 o121 =>
        Go.Vw.ld w_119 .sl b120 o121 fun a122 =>
        ifK (decide (k118 < (a122.len : Int)))
        (drawK w_119 fun D w_123 =>
          ix (g.s sls.length) 1 (i : Int) fun b124 o125 =>
          Go.Vw.ldD D w_123 .sl b124 o125 fun a126 =>
          ix (g.s sls.length) 1 (i : Int) fun b127 o128 =>
          Go.Vw.ldD D w_123 .sl b127 o128 fun a129 =>
          ix a129 3 k118 fun b130 o131 =>
          Go.Vw.ldD D w_123 .str b130 (o131 + 2) fun s132 =>
          s132.length + [120].length < 2 ^ 62 ∧
          ix a126 3 k118 fun b133 o134 =>
          Go.Vw.st w_123 b133 (o134 + 2) [.str (s132 ++ [120])] fun w_135 =>
          drawK w_135 fun D w_136 =>
          ix (g.s sls.length) 1 (i : Int) fun b137 o138 =>
          Go.Vw.ldD D w_136 .sl b137 o138 fun a139 =>
          ix (g.s sls.length) 1 (i : Int) fun b140 o141 =>
          Go.Vw.ldD D w_136 .sl b140 o141 fun a142 =>
          ix a142 3 k118 fun b143 o144 =>
          Go.Vw.ldD D w_136 (.int .i64) b143 o144 fun n145 =>
          ix a139 3 k118 fun b146 o147 =>
          Go.Vw.st w_136 b146 o147 [.int .i64 (w64 (n145.tdiv 2))] fun w_148 =>
          again117 (w64 (k118 + 1)) w_148)
        (k116 w_119)) [.int .i64 0] w) fun w_149 => K w_149 := by
  let itv (v : List Thing) : Rt := { it with vals := v }
  have hokv : ∀ {v : List Thing}, v.length = it.vals.length → (itv v).Ok := fun {v} hv => by
    unfold Rt.Ok at *
    rw [List.length_append, ET_len, List.length_append] at *
    show (v.length + _) * 3 + _ = _
    rw [hv]; exact hok
  have hslv : ∀ {v : List Thing}, v.length = it.vals.length → (itv v).sl = it.sl := fun hv => by simp [Rt.sl, itv, hv]
  have hgr : ∀ {w' : World} {D' : Nat → Prop} {l : List (Nat × List Value)}, At w0 D (m ++ l) w' → RdS w' ESl (g.s sls.length) sls := fun hA' => Gs.rd hg (hA'.own _ (List.mem_append_left _ hgm))
  have hwr : ∀ {w' : World} {v : List Thing} {k j : Nat} {x y : Thing} {vs : List LV} {K : World → Prop}, At w0 D (m ++ [(itv v).blk]) w' → v.length = it.vals.length → v[k]? = some x → j + vs.length ≤ 3 → spl (ET.f x) j (vs.map LV.toV) = ET.f y →
      (∀ w'', At w0 D (m ++ [(itv (v.set k y)).blk]) w'' → K w'') → ix it.sl 3 (k : Int) fun b o => Go.Vw.st w' b (o + j) vs K := by
    intro w' v k j x y vs K hA' hvl hx hj hs hK'
    have hkl := (List.getElem?_eq_some_iff.1 hx).1
    refine ix_some (hc := Nat.le_of_lt hok.lt) rfl (by omega) (show (k : Int) < ((it.vals.length : Nat) : Int) by omega) ?_
    have hset := ET.cells_set (v ++ [markT]) k j (vs.map LV.toV) x y it.rest (by rw [List.getElem?_append_left hkl]; exact hx) (show j + (vs.map LV.toV).length ≤ ET.n by rw [List.length_map]; exact hj) hs
    refine At.last hA' (o := 0 + (k : Int).toNat * 3 + j) ?_ fun w'' hA'' => hK' w'' ?_
    · rw [List.length_append, ET_len, List.length_append]
      show 0 + (k : Int).toNat * 3 + j + vs.length ≤ (v.length + 1) * 3 + it.rest.length
      simp; omega
    · have e : 0 + (k : Int).toNat * 3 + j = k * ET.n + j := by simp [ET]
      rw [e] at hA''
      have hset' : spl (ET.cells ((itv v).vals ++ [markT]) ++ (itv v).rest) (k * ET.n + j) (vs.map LV.toV) = ET.cells (v.set k y ++ [markT]) ++ it.rest := by
        rw [← List.set_append_left _ _ hkl]; exact hset
      rw [hset'] at hA''
      exact hA''
  refine join0 (fun w' => At w0 D (m ++ [it.bump.blk]) w') (fun kk hk => ?_) fun w' h => hK w' h
  refine loop1 (k := .int .i64) (fun x w' => ∃ k : Nat, x = k ∧ k ≤ it.vals.length ∧ At w0 D (m ++ [(itv ((it.vals.take k).map Rc.bump ++ it.vals.drop k)).blk]) w') (fun x _ => it.vals.length - x.toNat) rfl ⟨0, rfl, Nat.zero_le _, by simpa [itv] using hA⟩ ?_
  rintro x w1 ⟨k, rfl, hkl, hA1⟩
  refine (hgr (D' := D) hA1).ix rfl rfl hi fun b o _ hc => ld_cell (k := .sl) it.sl (hc 0 (by decide)) ?_
  refine ifK_intro (fun hlt => ?_) (fun hlt => ?_)
  rotate_left
  · have hge : k = it.vals.length := Nat.le_antisymm hkl (dge hlt)
    subst hge
    rw [List.take_length, List.drop_length, List.append_nil] at hA1
    exact hk _ hA1
  have hlt' : k < it.vals.length := dlt hlt
  obtain ⟨z, hz⟩ : ∃ z, it.vals[k]? = some z := ⟨_, List.getElem?_eq_getElem hlt'⟩
  generalize hv : (it.vals.take k).map Rc.bump ++ it.vals.drop k = v at hA1
  have hvl : v.length = it.vals.length := by rw [← hv]; simp; omega
  have hvk : v[k]? = some z := by
    rw [← hv, List.getElem?_append_right (by simp; omega)]
    simp only [List.length_map, List.length_take, Nat.min_eq_left hkl, Nat.sub_self]
    rw [List.getElem?_drop]; simpa using hz
  have hzl := hval z (List.mem_of_getElem? hz)
  have rdv : ∀ {w' : World} {v : List Thing}, At w0 D (m ++ [(itv v).blk]) w' → v.length = it.vals.length → RdS w' ET it.sl v := fun {w' v} hA' hvl => by
    have := Rt.rd (hokv hvl) (hA'.own (itv v).blk (by simp))
    rw [hslv hvl] at this; exact this
  refine ⟨fun _ => False, ?_⟩
  have hA2 := hA1.drew
  have hg2 := hgr (D' := D) hA2
  refine hg2.ix rfl rfl hi fun b o _ hc => ldD_cell (k := .sl) it.sl id (hc 0 (by decide)) ?_
  refine hg2.ix rfl rfl hi fun b o _ hc => ldD_cell (k := .sl) it.sl id (hc 0 (by decide)) ?_
  refine (rdv hA2 hvl).ix rfl rfl hvk fun b o _ hc => ldD_cell (k := .str) z.2.2 id (hc 2 (by decide)) ?_
  refine ⟨by simp; omega, ?_⟩
  refine hwr (x := z) (y := (z.1, z.2.1, z.2.2 ++ [120])) (j := 2) hA2 hvl hvk (Nat.le_refl 3) rfl fun w3 hA3 => ?_
  have hvl3 : (v.set k (z.1, z.2.1, z.2.2 ++ [120])).length = it.vals.length := by simp [hvl]
  have hvk3 : (v.set k (z.1, z.2.1, z.2.2 ++ [120]))[k]? = some (z.1, z.2.1, z.2.2 ++ [120]) := by rw [List.getElem?_set_self (by omega)]
  refine ⟨fun _ => False, ?_⟩
  have hA4 := hA3.drew
  have hg4 := hgr (D' := D) hA4
  refine hg4.ix rfl rfl hi fun b o _ hc => ldD_cell (k := .sl) it.sl id (hc 0 (by decide)) ?_
  refine hg4.ix rfl rfl hi fun b o _ hc => ldD_cell (k := .sl) it.sl id (hc 0 (by decide)) ?_
  refine (rdv hA4 hvl3).ix rfl rfl hvk3 fun b o _ hc => ldD_cell (k := .int .i64) z.1 id (hc 0 (by decide)) ?_
  refine hwr (x := (z.1, z.2.1, z.2.2 ++ [120])) (y := Rc.bump z) (j := 0) hA4 hvl3 hvk3 (show (1 : Nat) ≤ 3 by decide) rfl fun w5 hA5 => ?_
  rw [set_step (by omega)]
  refine ⟨⟨k + 1, rfl, hlt', ?_⟩, by simp; omega⟩
  have e : (v.set k (z.1, z.2.1, z.2.2 ++ [120])).set k (Rc.bump z) = (it.vals.take (k + 1)).map Rc.bump ++ it.vals.drop (k + 1) := by
    rw [List.set_set, ← hv, List.set_append_right _ _ (by simp; omega)]
    simp only [List.length_map, List.length_take, Nat.min_eq_left hkl, Nat.sub_self]
    rw [List.drop_eq_getElem_cons hlt', List.set_cons_zero, List.take_add_one, hz]
    simp
  rw [e] at hA5
  exact hA5
end Go.Proofs.Ytfhojgammfkabaa.Rc

/- The law's lists of records are bumped, and copied. -/
namespace Go.Proofs.Ytfhojgammfkabaa.Rc
open Go.Vw

structure Nw where
  sl : Sl
  vals : List Thing
  ro : List (Nat × List Value)
def Nw.Ok (n : Nw) : Prop := VecE n.ro ET n.sl n.vals
theorem nw_app (a b : List Nw) : (a ++ b).flatMap Nw.ro = a.flatMap Nw.ro ++ b.flatMap Nw.ro := by simp
theorem perm_nw (A ro P r1 c : List (Nat × List Value)) : ((((A ++ ro) ++ P) ++ r1) ++ c).Perm ((((A ++ r1) ++ P) ++ c) ++ ro) := by
  have h1 : (((A ++ ro) ++ P) ++ r1).Perm (((A ++ r1) ++ P) ++ ro) := by
    refine (List.Perm.append_right r1 (perm_tail3 A ro P)).trans ?_
    refine (perm_tail3 _ _ _).trans (List.Perm.append_right ro ?_)
    exact perm_tail3 A P r1
  exact (List.Perm.append_right c h1).trans (perm_tail3 _ _ _)
theorem bumps_ok {w0 w : World} {D : Nat → Prop} {M : List (Nat × List Value)} {its : List Rt} (hA : At w0 D (M ++ its.map Rt.blk) w) (hok : ∀ i ∈ its, i.Ok) {g : Gs} (hg : g.Ok (its.map Rt.sl)) (hgm : g.blk (its.map Rt.sl) ∈ M) (hn : its.length ≤ 1048576) (hl : ∀ i ∈ its, i.vals.length ≤ 1048576) (hval : ∀ i ∈ its, ∀ x ∈ i.vals, x.2.2.length ≤ 1048576) {k : Sl → World → Prop}
    (hK : ∀ now w' (nw : List Nw) ro, At w0 D (((M ++ nw.flatMap Nw.ro) ++ ro) ++ (its.map Rt.bump).map Rt.blk) w' → VecE ro ESl now (nw.map Nw.sl) → nw.map Nw.vals = (its.map Rt.bump).map Rt.vals → (∀ n ∈ nw, n.Ok) → k now w') :
    loopL [.sl, .int .i64] (fun now113 i114 w_115 again112 =>
      ifK (decide (i114 < ((g.s (its.map Rt.sl).length).len : Int)))
      (joinK [] (fun k116 =>
          loopL [.int .i64] (fun k118 w_119 again117 =>
            ix (g.s (its.map Rt.sl).length) 1 i114 fun b120 o121 =>
            Go.Vw.ld w_119 .sl b120 o121 fun a122 =>
            ifK (decide (k118 < (a122.len : Int)))
            (drawK w_119 fun D w_123 =>
              ix (g.s (its.map Rt.sl).length) 1 i114 fun b124 o125 =>
              Go.Vw.ldD D w_123 .sl b124 o125 fun a126 =>
              ix (g.s (its.map Rt.sl).length) 1 i114 fun b127 o128 =>
              Go.Vw.ldD D w_123 .sl b127 o128 fun a129 =>
              ix a129 3 k118 fun b130 o131 =>
              Go.Vw.ldD D w_123 .str b130 (o131 + 2) fun s132 =>
              s132.length + [120].length < 2 ^ 62 ∧
              ix a126 3 k118 fun b133 o134 =>
              Go.Vw.st w_123 b133 (o134 + 2) [.str (s132 ++ [120])] fun w_135 =>
              drawK w_135 fun D w_136 =>
              ix (g.s (its.map Rt.sl).length) 1 i114 fun b137 o138 =>
              Go.Vw.ldD D w_136 .sl b137 o138 fun a139 =>
              ix (g.s (its.map Rt.sl).length) 1 i114 fun b140 o141 =>
              Go.Vw.ldD D w_136 .sl b140 o141 fun a142 =>
              ix a142 3 k118 fun b143 o144 =>
              Go.Vw.ldD D w_136 (.int .i64) b143 o144 fun n145 =>
              ix a139 3 k118 fun b146 o147 =>
              Go.Vw.st w_136 b146 o147 [.int .i64 (w64 (n145.tdiv 2))] fun w_148 =>
              again117 (w64 (k118 + 1)) w_148)
            (k116 w_119)) [.int .i64 0] w_115) fun w_149 =>
        ix (g.s (its.map Rt.sl).length) 1 i114 fun b150 o151 =>
        Go.Vw.ld w_149 .sl b150 o151 fun a152 =>
        ap w_149 91 3 40 [.int .i64 0, .str [], .str []] (⟨none, 0, 0⟩) a152 fun a153 w_154 =>
        Go.Vw.al w_154 89 [.sl a153] fun b155 w_156 =>
        ap w_156 89 1 24 [.sl (⟨none, 0, 0⟩)] now113 (⟨some (b155, 0), 1, 1⟩) fun a157 w_158 =>
        again112 a157 (w64 (i114 + 1)) w_158)
      (k now113 w_115)) [.sl (⟨none, 0, 0⟩), .int .i64 0] w := by
  have hsl : ((g.s (its.map Rt.sl).length).len : Int) = its.length := by show (((its.map Rt.sl).length : Nat) : Int) = _; rw [List.length_map]
  refine loop2 (k1 := .sl) (k2 := .int .i64) (fun now x w' => ∃ (i : Nat) (nw : List Nw) (ro : List (Nat × List Value)), x = i ∧ i ≤ its.length ∧ At w0 D (((M ++ nw.flatMap Nw.ro) ++ ro) ++ ((its.take i).map Rt.bump ++ its.drop i).map Rt.blk) w' ∧ VecE ro ESl now (nw.map Nw.sl) ∧ nw.map Nw.vals = ((its.take i).map Rt.bump).map Rt.vals ∧ ∀ n ∈ nw, n.Ok) (fun _ x _ => its.length - x.toNat) rfl rfl
    ⟨0, [], [], rfl, Nat.zero_le _, by simpa using hA, VecE.nil _, by simp, by simp⟩ ?_
  rintro now x w1 ⟨i, nw, ro, rfl, hi, hA1, hv, hvals, hnw⟩
  rw [hsl]
  refine ifK_intro (fun hlt => ?_) (fun hlt => ?_)
  rotate_left
  · have hge : i = its.length := Nat.le_antisymm hi (dge hlt)
    subst hge
    rw [List.take_length, List.drop_length, List.append_nil] at hA1
    rw [List.take_length] at hvals
    exact hK _ _ nw ro hA1 hv hvals hnw
  have hlt' : i < its.length := dlt hlt
  obtain ⟨it, hit⟩ : ∃ it, its[i]? = some it := ⟨_, List.getElem?_eq_getElem hlt'⟩
  have hitm := List.mem_of_getElem? hit
  have hoki := hok it hitm
  have hsi : (its.map Rt.sl)[i]? = some it.sl := by rw [List.getElem?_map, hit]; rfl
  have hdr : its.drop i = it :: its.drop (i + 1) := by
    rw [List.drop_eq_getElem_cons hlt']
    rw [List.getElem?_eq_getElem hlt'] at hit; cases hit; rfl
  have htk : (its.take (i + 1)).map Rt.bump = (its.take i).map Rt.bump ++ [it.bump] := by rw [List.take_add_one, hit]; simp
  have hnwl : nw.length = i := by
    have := congrArg List.length hvals
    rw [List.length_map, List.length_map, List.length_map, List.length_take] at this; omega
  rw [hdr] at hA1
  have hA1' := hA1.perm (perm_item Rt.blk ((M ++ nw.flatMap Nw.ro) ++ ro) ((its.take i).map Rt.bump) (its.drop (i + 1)) it)
  refine bump_ok hA1' hoki hg (by simp [hgm]) hsi (hl it hitm) (hval it hitm) fun w2 hA2 => ?_
  have hA2 := hA2.perm (perm_item Rt.blk ((M ++ nw.flatMap Nw.ro) ++ ro) ((its.take i).map Rt.bump) (its.drop (i + 1)) it.bump).symm
  have e1 : (its.take i).map Rt.bump ++ it.bump :: its.drop (i + 1) = (its.take (i + 1)).map Rt.bump ++ its.drop (i + 1) := by rw [htk]; simp
  rw [e1] at hA2
  have hg2 : RdS w2 ESl (g.s (its.map Rt.sl).length) (its.map Rt.sl) := Gs.rd hg (hA2.own _ (by simp only [List.mem_append]; exact .inl (.inl (.inl hgm))))
  refine hg2.ix rfl rfl hsi fun b o _ hc => ld_cell (k := .sl) it.sl (hc 0 (by decide)) ?_
  have hbm : it.bump.blk ∈ (((M ++ nw.flatMap Nw.ro) ++ ro) ++ ((its.take (i + 1)).map Rt.bump ++ its.drop (i + 1)).map Rt.blk) := by
    rw [htk]; simp
  have hx : RdS w2 ET it.sl it.bump.vals := by
    have := Rt.rd hoki.bump (hA2.own _ hbm)
    rwa [Rt.bump_sl] at this
  have hbl : it.bump.vals.length ≤ 1048576 := by have := hl it hitm; simpa [Rt.bump] using this
  have hA2' : At w0 D ((((M ++ nw.flatMap Nw.ro) ++ ro) ++ ((its.take (i + 1)).map Rt.bump ++ its.drop (i + 1)).map Rt.blk) ++ []) w2 := by rw [List.append_nil]; exact hA2
  refine hA2'.app (VecE.nil ET) hx rfl rfl (by simp; omega) fun a153 r1 w3 hA3 hv3 _ => ?_
  rw [List.nil_append] at hv3
  refine hA3.alK fun b155 w4 _ hA4 _ => ?_
  have hA4 := hA4.perm (perm_nw _ _ _ _ _).symm
  have hx4 : RdS w4 ESl ⟨some (b155, 0), 1, 1⟩ [a153] := rd_one (hA4.own (b155, [(LV.sl a153).toV]) (by simp [LV.toV]))
  refine hA4.app hv hx4 rfl rfl (by simp; omega) fun a157 ro' w5 hA5 hv5 _ => ?_
  rw [set_step (by omega)]
  refine ⟨⟨i + 1, nw ++ [⟨a153, it.bump.vals, r1⟩], ro', rfl, hlt', ?_, by rw [List.map_append]; exact hv5, ?_, ?_⟩, by simp; omega⟩
  · have h6 := hA5.sub (m' := (((M ++ nw.flatMap Nw.ro) ++ r1) ++ ((its.take (i + 1)).map Rt.bump ++ its.drop (i + 1)).map Rt.blk) ++ ro') (List.Sublist.append_right (List.sublist_append_left _ _) _)
    have h7 := h6.perm (perm_tail3 _ _ _)
    have e : (M ++ (nw ++ [(⟨a153, it.bump.vals, r1⟩ : Nw)]).flatMap Nw.ro) = (M ++ nw.flatMap Nw.ro) ++ r1 := by rw [nw_app]; simp
    rw [e]; exact h7
  · rw [List.map_append, hvals, htk, List.map_append]; rfl
  · intro z hz
    rcases List.mem_append.1 hz with hz | hz
    · exact hnw z hz
    · simp at hz; rw [hz]; exact hv3
end Go.Proofs.Ytfhojgammfkabaa.Rc

/- MergeRecords, walked. -/
namespace Go.Proofs.Ytfhojgammfkabaa.Rc
open Go.Vw

theorem Gs.ls {w0 w : World} {D : Nat → Prop} {m : List (Nat × List Value)} {g : Gs} {its : List Rt} (hA : At w0 D m w) (hg : g.Ok (its.map Rt.sl)) (hgm : g.blk (its.map Rt.sl) ∈ m) (hok : ∀ i ∈ its, i.Ok) (him : ∀ i ∈ its, i.blk ∈ m) :
    LsAt w (g.s (its.map Rt.sl).length) (its.map Rt.sl) (its.map Rt.vals) ∧ ∀ x ∈ its.map Rt.sl, ∀ b, rk x b → b < w.heap.size := by
  refine ⟨⟨Gs.rd hg (hA.own _ hgm), by simp, fun i x l hx hl => ?_⟩, fun x hx b hb => ?_⟩
  · rw [List.getElem?_map] at hx hl
    cases hi : its[i]? with
    | none => rw [hi] at hx; cases hx
    | some it =>
      rw [hi] at hx hl
      cases hx; cases hl
      have hm := List.mem_of_getElem? hi
      exact Rt.rd (hok it hm) (hA.own _ (him it hm))
  · obtain ⟨it, hm, rfl⟩ := List.mem_map.1 hx
    obtain ⟨_, o, e⟩ := hb
    cases e
    exact (hA.own _ (him it hm)).lt
theorem flat_bump (its : List Rt) : ((its.map Rt.bump).map Rt.vals).flatten.length = (its.map Rt.vals).flatten.length := by
  induction its with
  | nil => rfl
  | cons i r ih => simp only [List.map_cons, List.flatten_cons, List.length_append, ih]; simp [Rt.bump]
theorem records_walk {w : World} {s : Sl} {xs : List Sl} {Ls : List (List Thing)} (h : LsAt w s xs Ls) (hn : Ls.length ≤ 1048576) (htot : Ls.flatten.length ≤ 1048576) (hstr : ∀ L ∈ Ls, ∀ x ∈ L, x.2.1.length ≤ 1048576 ∧ x.2.2.length ≤ 1048576)
    {K : Bool → World → Prop} (hK : ∀ w', Mod (fun _ => False) w w' → K true w') : callK Try.prog 10 [.leaf (.sl s)] w (.one (.leaf .bool)) K := by
  refine go_winnowlaw11_MergeRecords _ _ _ ?_
  unfold S_winnowlaw11_MergeRecords
  have hsl : (s.len : Int) = Ls.length := by rw [h.rd.len, h.len]
  refine join1 (a := .sl) (fun g w' => ∃ (its : List Rt) (ro : List (Nat × List Value)), At w (fun _ => False) (its.map Rt.blk ++ ro) w' ∧ VecE ro ESl g (its.map Rt.sl) ∧ its.map Rt.vals = Ls ∧ ∀ i ∈ its, i.Ok) (fun k hk => copies_ok h hn htot fun g w' its ro h1 h2 h3 h4 => hk _ _ ⟨its, ro, h1, h2, h3, h4⟩) ?_
  rintro g24 w25 ⟨its, ro, hA25, hv25, hvals, hok⟩
  have hil : its.length = Ls.length := by rw [← hvals]; simp
  refine hA25.alK fun b26 w27 _ hA27 _ => hA27.alK fun b28 w29 _ hA29 _ => ?_
  have hA29 : At w (fun _ => False) (((its.map Rt.blk ++ [(b26, recC (-6, [], []))]) ++ [(b28, [(LV.sl ⟨some (b26, 0), 1, 1⟩).toV])]) ++ ro) w29 := hA29.perm ((List.Perm.append_right _ (perm_tail3 _ _ _)).trans (perm_tail3 _ _ _)).symm
  have hx29 : RdS w29 ESl ⟨some (b28, 0), 1, 1⟩ [⟨some (b26, 0), 1, 1⟩] := rd_one (hA29.own (b28, [(LV.sl ⟨some (b26, 0), 1, 1⟩).toV]) (by simp))
  refine hA29.app hv25 hx29 rfl rfl (by simp; omega) fun a30 ro30 w31 hA31 hv31 _ => ?_
  obtain ⟨hl30, hv30⟩ := hv31
  rcases hv30 with ⟨_, _, _, hbad⟩ | ⟨bo, rest, rfl, hp30, hc30⟩
  · exact absurd hbad (by simp)
  have hl30 : a30.len = Ls.length + 1 := by rw [hl30]; simp [hil]
  have hc31 : (ESl.cells (its.map Rt.sl ++ [⟨some (b26, 0), 1, 1⟩]) ++ rest).length = a30.cap := by rw [hc30]; simp [ESl]
  obtain ⟨p30, n30, c30⟩ := a30
  simp only at hl30 hp30 hc31
  subst hl30 hp30
  generalize hge : (⟨bo, c30, ⟨some (b26, 0), 1, 1⟩, rest⟩ : Gs) = g
  have hg : g.Ok (its.map Rt.sl) := by rw [← hge]; exact hc31
  have hglt := hg.lt
  have hslen : (its.map Rt.sl).length = Ls.length := by simp [hil]
  have hgb : g.blk (its.map Rt.sl) = (bo, ESl.cells (its.map Rt.sl ++ [⟨some (b26, 0), 1, 1⟩]) ++ rest) := by rw [← hge]; rfl
  have hcp : g.cp = c30 := by rw [← hge]
  have hbo : g.bo = bo := by rw [← hge]
  have hmkS : g.mkS = ⟨some (b26, 0), 1, 1⟩ := by rw [← hge]
  have e32 : Sl.cut ⟨some (bo, 0), Ls.length + 1, c30⟩ 1 Ls.length (Ls.length + 1) c30 = ⟨some (g.bo, (its.map Rt.sl).length), 1, g.cp - (its.map Rt.sl).length⟩ := by
    have hne : ¬ c30 = Ls.length := by omega
    simp [Sl.cut, hne, hcp, hbo, hil]
  have e33 : Sl.cut ⟨some (bo, 0), Ls.length + 1, c30⟩ 1 0 Ls.length c30 = g.s (its.map Rt.sl).length := by
    have hne : ¬ c30 = 0 := by omega
    simp [Sl.cut, hne, Gs.s, hcp, hbo, hil]
  rw [hsl]
  refine ⟨Ls.length, Ls.length + 1, c30, rfl, rfl, rfl, by omega, by omega, Nat.le_refl _, ?_⟩
  refine ⟨0, Ls.length, c30, rfl, rfl, rfl, by omega, by omega, Nat.le_refl _, ?_⟩
  rw [e32, e33]
  generalize hM0 : ([g.blk (its.map Rt.sl)] ++ [(b26, recC (-6, [], []))] : List (Nat × List Value)) = M0
  have hgM : g.blk (its.map Rt.sl) ∈ M0 := by rw [← hM0]; simp
  have hbM : (b26, recC (-6, [], [])) ∈ M0 := by rw [← hM0]; simp
  have hA31 : At w (fun _ => False) (M0 ++ its.map Rt.blk) w31 := by
    have h1 := hA31.sub (m' := (its.map Rt.blk ++ [(b26, recC (-6, [], []))]) ++ [g.blk (its.map Rt.sl)]) (by
      rw [hgb]; exact List.Sublist.append_right (List.sublist_append_left _ _) _)
    refine h1.perm ?_
    rw [← hM0, List.append_assoc (its.map Rt.blk)]
    exact (List.Perm.append_right _ (List.perm_append_comm (l₁ := [g.blk _]) (l₂ := [_]))).trans List.perm_append_comm
  have him : ∀ i ∈ its, i.blk ∈ M0 ++ its.map Rt.blk := fun i hi => List.mem_append_right _ (List.mem_map_of_mem hi)
  have hltl : ∀ p ∈ M0 ++ its.map Rt.blk, p.1 < w31.heap.size := fun p hp => (hA31.own p hp).lt
  have hGd : ∀ L ∈ Ls, ∀ x ∈ L, Gd x := fun L hL x hx => by
    have := (hstr L hL x hx).1
    unfold Gd; omega
  have hrl : (recs Ls).1.length ≤ 1048576 := by
    unfold recs
    split
    · simp
    · split
      · rw [srtA_len]; simpa using htot
      · simp
  -- twice
  obtain ⟨ls31, lo31⟩ := Gs.ls hA31 hg (List.mem_append_left _ hgM) hok him
  rw [hvals] at ls31
  refine records_ok ls31 lo31 hn htot hGd fun a34 w36 hv34 hk34 M36 => ?_
  have hA36 := hA31.keep0 M36 fun _ => id
  have hlt34 : ∀ b, bk a34 b → b < w36.heap.size := fun b hb => hv34.lt hb
  obtain ⟨ls36, lo36⟩ := Gs.ls hA36 hg (List.mem_append_left _ hgM) hok him
  rw [hvals] at ls36
  refine records_ok ls36 lo36 hn htot hGd fun a37 w39 hv37 hk37 M39 => ?_
  have hA39 := hA36.keep0 M39 fun _ => id
  refine ref_records (h.keep hA39.mod) hn htot fun a40 w42 hv40 hk40 M42 => ?_
  have hA42 := hA39.keep0 M42 fun _ => id
  have hv34 := (hv34.keep M39 fun _ _ => id).keep M42 fun _ _ => id
  have hv37 := hv37.keep M42 fun _ _ => id
  refine join1 (a := .bool) (fun b w' => b = false ∧ Mod (fun _ => False) w42 w') (fun k hk => ?_) ?_
  · refine ifK_f (by simp) (ifK_f (by simp) (sameRecords_ok hv34.rd hv40.rd hrl fun w45 M45 => hk _ _ ⟨rfl, M45⟩))
  rintro _ w47 ⟨rfl, M47⟩
  refine ifK_f rfl ?_
  have hA47 := hA42.keep0 M47 fun _ => id
  refine spoil_ok (hv34.keep M47 fun _ _ => id) hrl fun w65 M65 => ?_
  have hA65 : At w (fun _ => False) (M0 ++ its.map Rt.blk) w65 := hA47.keep M65 (fun b hb hd => by have := hk34 b hd; have := hA31.mod.size; omega) fun p hp hd => by have := hk34 _ hd; have := hltl p hp; omega
  have hv37 : Vec w65 ET a37 (recs Ls).1 := (hv37.keep M47 fun _ _ => id).keep M65 fun b hb hd => by have := hlt34 b hd; have := hk37 b hb; omega
  have hv40 : Vec w65 ET a40 (recs Ls).1 := (hv40.keep M47 fun _ _ => id).keep M65 fun b hb hd => by have := hlt34 b hd; have := hk40 b hb; have := M39.size; omega
  have rdit : ∀ {w' : World} {i : Nat} {L : List Thing}, At w (fun _ => False) (M0 ++ its.map Rt.blk) w' → Ls[i]? = some L → ∃ it : Rt, it ∈ its ∧ (its.map Rt.sl)[i]? = some it.sl ∧ it.vals = L ∧ it.Ok ∧ RdS w' ET it.sl L ∧ RdS w' ET ⟨some (it.b, 0), it.vals.length + 1, it.cap⟩ (L ++ [markT]) := by
    intro w' i L hA' hL
    rw [← hvals, List.getElem?_map] at hL
    cases hi : its[i]? with
    | none => rw [hi] at hL; cases hL
    | some it =>
      rw [hi] at hL
      cases hL
      have hm := List.mem_of_getElem? hi
      refine ⟨it, hm, by rw [List.getElem?_map, hi]; rfl, rfl, hok it hm, Rt.rd (hok it hm) (hA'.own _ (him it hm)), Rt.rd1 (hok it hm) (hA'.own _ (him it hm))⟩
  refine join0 (fun w' => Mod (fun _ => False) w65 w') (fun k hk => ?_) fun w96 M96 => ?_
  · refine loop1 (k := .int .i64) (fun x w' => ∃ i : Nat, x = i ∧ i ≤ Ls.length ∧ Mod (fun _ => False) w65 w') (fun x _ => Ls.length - x.toNat) rfl ⟨0, rfl, Nat.zero_le _, Mod.refl _ _⟩ ?_
    rintro x w69 ⟨i, rfl, hi, M69⟩
    refine ifK_intro (fun hlt => ?_) (fun hlt => hk _ M69)
    have hlt' : i < Ls.length := dlt hlt
    obtain ⟨L, hL⟩ : ∃ L, Ls[i]? = some L := ⟨_, List.getElem?_eq_getElem hlt'⟩
    obtain ⟨sx, hsx⟩ : ∃ sx, xs[i]? = some sx := ⟨_, List.getElem?_eq_getElem (by rw [← h.len]; exact hlt')⟩
    have hLl := take_flat hL
    have hsxl : sx.len = L.length := (h.each i sx L hsx hL).len
    have M70 := mod0 M69 (Mod.drew (fun _ => False) w69)
    have hA70 := hA65.keep0 M70 fun _ => id
    obtain ⟨it, hm, hsi, hiv, hio, hr1, hr2⟩ := rdit hA70 hL
    have hgr70 : RdS w69.drew ESl (g.s (its.map Rt.sl).length) (its.map Rt.sl) := Gs.rd hg (hA70.own _ (List.mem_append_left _ hgM))
    have hs70 := h.rd.keep hA70.mod fun _ _ => id
    refine ⟨fun _ => False, ?_⟩
    refine hgr70.ix rfl rfl hsi fun b o _ hc => ldD_cell (k := .sl) it.sl id (hc 0 (by decide)) ?_
    refine hs70.ix rfl rfl hsx fun b o _ hc => ldD_cell (k := .sl) sx id (hc 0 (by decide)) ?_
    refine Rt.cut1 hio (by rw [hsxl, hiv, w64_in (by omega) (by omega)]; omega) ?_
    refine join1 (a := .bool) (fun b w' => b = false ∧ Mod (fun _ => False) w65 w') (fun k2 hk2 => ?_) ?_
    · refine ⟨fun _ => False, ?_⟩
      have M79 := mod0 M70 (Mod.drew (fun _ => False) w69.drew)
      have hA79 := hA65.keep0 M79 fun _ => id
      have hgr79 : RdS w69.drew.drew ESl (g.s (its.map Rt.sl).length) (its.map Rt.sl) := Gs.rd hg (hA79.own _ (List.mem_append_left _ hgM))
      have hs79 := h.rd.keep hA79.mod fun _ _ => id
      refine hgr79.ix rfl rfl hsi fun b o _ hc => ldD_cell (k := .sl) it.sl id (hc 0 (by decide)) ?_
      refine hs79.ix rfl rfl hsx fun b o _ hc => ldD_cell (k := .sl) sx id (hc 0 (by decide)) ?_
      have hr79 : RdS w69.drew.drew ET it.sl L := by
        have := Rt.rd hio (hA79.own _ (him it hm)); rw [hiv] at this; exact this
      refine sameRecords_ok hr79 ((h.each i sx L hsx hL).keep hA79.mod fun _ _ => id) (by omega) fun w87 M87 => ⟨M87, ifK_f rfl ?_⟩
      have M87' := mod0 M79 M87
      refine hs79.ix rfl rfl hsx fun b o _ hc => ldD_cell (k := .sl) sx id (hc 0 (by decide)) ?_
      have hr87 : RdS w69.drew.drew ET ⟨some (it.b, 0), it.vals.length + 1, it.cap⟩ (L ++ [markT]) := by
        have := Rt.rd1 hio (hA79.own _ (him it hm)); rw [hiv] at this ⊢; exact this
      refine hr87.ix rfl (by rw [hsxl] : (sx.len : Int) = ((L.length : Nat) : Int)) (x := markT) (by simp) fun b o _ hc => ldD_cell (k := .int .i64) (-9) id (hc 0 (by decide)) (hk2 _ _ ⟨rfl, M87'⟩)
    · rintro _ w95 ⟨rfl, M95⟩
      refine ifK_f rfl ?_
      rw [set_step (by omega)]
      exact ⟨⟨i + 1, rfl, hlt', M95⟩, by simp; omega⟩
  have hA96 := hA65.keep0 M96 fun _ => id
  refine join1 (a := .bool) (fun b w' => b = false ∧ w' = w96) (fun k hk => ?_) ?_
  · have hrM : RdS w96 ESl ⟨some (g.bo, (its.map Rt.sl).length), 1, g.cp - (its.map Rt.sl).length⟩ [g.mkS] := Gs.rdM hg (hA96.own _ (List.mem_append_left _ hgM))
    rw [hmkS] at hrM
    have hrT : RdS w96 ET ⟨some (b26, 0), 1, 1⟩ [(-6, [], [])] := rd_one (hA96.own _ (List.mem_append_left _ hbM))
    refine hrM.ix rfl (k := 0) rfl rfl fun b o _ hc => ld_cell (k := .sl) ⟨some (b26, 0), 1, 1⟩ (hc 0 (by decide)) (ifK_f rfl ?_)
    refine hrM.ix rfl (k := 0) rfl rfl fun b o _ hc => ld_cell (k := .sl) ⟨some (b26, 0), 1, 1⟩ (hc 0 (by decide)) ?_
    refine hrT.ix rfl (k := 0) rfl rfl fun b o _ hc => ld_cell (k := .int .i64) (-6) (hc 0 (by decide)) (hk _ _ ⟨rfl, rfl⟩)
  rintro _ w108 ⟨rfl, hw108⟩
  rw [hw108]
  refine ifK_f rfl ?_
  refine sameRecords_ok (hv37.keep M96 fun _ _ => id).rd (hv40.keep M96 fun _ _ => id).rd hrl fun w110 M110 => ifK_f rfl ?_
  have hA110 := hA96.keep0 M110 fun _ => id
  have hitL : ∀ i ∈ its, i.vals ∈ Ls := fun i hi => by rw [← hvals]; exact List.mem_map_of_mem hi
  have hitl : ∀ i ∈ its, i.vals.length ≤ 1048576 := fun i hi => by
    obtain ⟨j, hj⟩ := List.mem_iff_getElem?.1 (hitL i hi)
    have := take_flat hj; omega
  refine join1 (a := .sl) (fun now w' => ∃ (nw : List Nw) (ro : List (Nat × List Value)), At w (fun _ => False) (((M0 ++ nw.flatMap Nw.ro) ++ ro) ++ (its.map Rt.bump).map Rt.blk) w' ∧ VecE ro ESl now (nw.map Nw.sl) ∧ nw.map Nw.vals = (its.map Rt.bump).map Rt.vals ∧ ∀ n ∈ nw, n.Ok)
    (fun k hk => bumps_ok hA110 hok hg hgM (by omega) hitl (fun i hi x hx => (hstr _ (hitL i hi) x hx).2) fun now w' nw ro h1 h2 h3 h4 => hk _ _ ⟨nw, ro, h1, h2, h3, h4⟩) ?_
  rintro now w160 ⟨nw, ro160, hA160, hv160, hnvals, hnok⟩
  have hsl2 : (its.map Rt.bump).map Rt.sl = its.map Rt.sl := by
    rw [List.map_map]
    exact List.map_congr_left fun i _ => Rt.bump_sl i
  have hok2 : ∀ i ∈ its.map Rt.bump, i.Ok := fun i hi => by obtain ⟨j, hj, rfl⟩ := List.mem_map.1 hi; exact (hok j hj).bump
  generalize hL2 : (its.map Rt.bump).map Rt.vals = Ls2
  have hn2 : Ls2.length ≤ 1048576 := by rw [← hL2]; simp; omega
  have htot2 : Ls2.flatten.length ≤ 1048576 := by rw [← hL2, flat_bump, hvals]; exact htot
  have hGd2 : ∀ L ∈ Ls2, ∀ x ∈ L, Gd x := fun L hL x hx => by
    rw [← hL2] at hL
    obtain ⟨i, hi, rfl⟩ := List.mem_map.1 hL
    obtain ⟨j, hj, rfl⟩ := List.mem_map.1 hi
    obtain ⟨z, hz, rfl⟩ := List.mem_map.1 (show x ∈ j.vals.map bump from hx)
    exact hGd _ (hitL j hj) z hz
  have hrl2 : (recs Ls2).1.length ≤ 1048576 := by
    unfold recs
    split
    · simp
    · split
      · rw [srtA_len]; simpa using htot2
      · simp
  obtain ⟨ls160, lo160⟩ := Gs.ls (g := g) (its := its.map Rt.bump) hA160 (by rw [hsl2]; exact hg) (by rw [hsl2]; simp [hgM]) hok2 fun i hi => List.mem_append_right _ (List.mem_map_of_mem hi)
  rw [hL2, hsl2] at ls160
  rw [hsl2] at lo160
  refine records_ok ls160 lo160 hn2 htot2 hGd2 fun a161 w163 hv161 hk161 M163 => ?_
  have hA163 := hA160.keep0 M163 fun _ => id
  have hnow : LsAt w163 now (nw.map Nw.sl) Ls2 := by
    refine ⟨(hv160.vec fun p hp => hA163.own p (by simp [hp])).rd, by rw [← hL2, ← hnvals]; simp, fun i x l hx hl => ?_⟩
    rw [← hL2, ← hnvals, List.getElem?_map] at hl
    rw [List.getElem?_map] at hx
    cases hi : nw[i]? with
    | none => rw [hi] at hx; cases hx
    | some n =>
      rw [hi] at hx hl
      cases hx; cases hl
      have hm := List.mem_of_getElem? hi
      refine (VecE.vec (hnok n hm) fun p hp => hA163.own p ?_).rd
      simp only [List.mem_append]
      exact .inl (.inl (.inr (List.mem_flatMap.2 ⟨n, hm, hp⟩)))
  refine ref_records hnow hn2 htot2 fun a164 w166 hv164 _ M166 => ?_
  refine join1 (a := .bool) (fun b w' => b = true ∧ Mod (fun _ => False) w166 w') (fun k hk => ?_) ?_
  · refine ifK_t (by simp) (sameRecords_ok (hv161.keep M166 fun _ _ => id).rd hv164.rd hrl2 fun w169 M169 => hk _ _ ⟨rfl, M169⟩)
  rintro _ w171 ⟨rfl, M171⟩
  exact hK _ (mod0 (mod0 hA163.mod M166) M171)
end Go.Proofs.Ytfhojgammfkabaa.Rc
