/- Lists of lists of texts: compared, written full, grown, looked through. -/
import Derived.Test.YtfhojgammfkabaaG0
namespace Go.Proofs.Ytfhojgammfkabaa
open Go.Vw

structure It where
  b : Nat
  cap : Nat
  vals : List Str
  rest : List Value
def It.sl (i : It) : Sl := ⟨some (i.b, 0), i.vals.length, i.cap⟩
def It.blk (i : It) : Nat × List Value := (i.b, EStr.cells i.vals ++ i.rest)
def It.Ok (i : It) : Prop := (EStr.cells i.vals ++ i.rest).length = i.cap
def It.fill (t : Str) (i : It) : It := { i with vals := List.replicate i.vals.length t }
def It.key (i : It) : Nat × Nat × List Str := (i.b, i.cap, i.vals)
theorem EStr_len (l : List Str) : (EStr.cells l).length = l.length := by rw [EStr.cells_length]; simp [EStr]
theorem It.Ok.le {i : It} (h : i.Ok) : i.vals.length ≤ i.cap := by unfold It.Ok at h; rw [List.length_append, EStr_len] at h; omega
theorem It.Ok.fill {i : It} (h : i.Ok) (t : Str) : (i.fill t).Ok := by
  unfold It.Ok It.fill at *
  simp only [List.length_append, EStr_len, List.length_replicate] at h ⊢
  exact h
theorem It.rd {i : It} (h : i.Ok) {w : World} (hb : Blk w i.b (EStr.cells i.vals ++ i.rest)) : RdS w EStr i.sl i.vals :=
  ⟨rfl, .inr ⟨i.b, 0, rfl, fun j hj => by rw [hb.cell, Nat.zero_add, List.getElem?_append_left hj]⟩, h.le⟩
theorem sl_of_key {a b : List It} (h : a.map It.key = b.map It.key) : a.map It.sl = b.map It.sl := by
  have e : ∀ l : List It, l.map It.sl = (l.map It.key).map fun k => (⟨some (k.1, 0), k.2.2.length, k.2.1⟩ : Sl) := fun l => by rw [List.map_map]; rfl
  rw [e, e, h]
theorem fill_sl (t : Str) (l : List It) : (l.map (It.fill t)).map It.sl = l.map It.sl := by
  rw [List.map_map]
  apply List.map_congr_left
  intro i _
  simp [It.fill, It.sl]
theorem perm_item {α β : Type} (f : α → β) (m : List β) (a b : List α) (x : α) : ((m ++ (a ++ b).map f) ++ [f x]).Perm (m ++ (a ++ x :: b).map f) := by
  rw [List.append_assoc]
  refine .append_left m ?_
  rw [List.map_append, List.map_append, List.map_cons]
  exact (List.perm_append_comm (l₂ := [f x])).trans (by rw [List.singleton_append]; exact List.perm_middle.symm)
theorem sameTexts_ok {w : World} {a b : Sl} {xs : List Str} (ha : RdS w EStr a xs) (hb : RdS w EStr b xs) (hl : xs.length ≤ 1048576) {K : Bool → World → Prop} (hK : ∀ w', Mod (fun _ => False) w w' → K true w') : callK Try.prog 14 [.leaf (.sl a), .leaf (.sl b)] w (.one (.leaf .bool)) K := by
  refine go_winnowlaw11_sameTexts _ _ _ _ ?_
  unfold S_winnowlaw11_sameTexts
  refine ifK_f (by rw [ha.len, hb.len]; simp) (join0 (fun w' => Mod (fun _ => False) w w') (fun k hk => ?_) fun w' hM => hK w' hM)
  refine loop1 (k := .int .i64) (fun x w' => ∃ i : Nat, x = i ∧ i ≤ xs.length ∧ Mod (fun _ => False) w w') (fun x _ => xs.length - x.toNat) rfl ⟨0, rfl, Nat.zero_le _, Mod.refl _ _⟩ ?_
  rintro x w6 ⟨i, rfl, hi, hM⟩
  refine ifK_intro (fun hlt => ?_) (fun _ => hk _ hM)
  have hlt' : i < xs.length := by rw [ha.len] at hlt; simpa using hlt
  refine ⟨fun _ => False, ?_⟩
  have hM' : Mod (fun _ => False) w w6.drew := mod0 hM (Mod.drew _ _)
  refine (ha.keep hM' fun _ _ => id).ix rfl rfl (List.getElem?_eq_getElem hlt') fun b1 o1 _ hc => ldD_cell (k := .str) xs[i] id (hc 0 (by decide)) ?_
  refine (hb.keep hM' fun _ _ => id).ix rfl rfl (List.getElem?_eq_getElem hlt') fun b1 o1 _ hc => ldD_cell (k := .str) xs[i] id (hc 0 (by decide)) (ifK_f (by simp) ?_)
  rw [set_step (by omega)]
  exact ⟨⟨i + 1, rfl, hlt', hM'⟩, by simp; omega⟩
section
variable {w0 w : World} {D : Nat → Prop} {m rs : List (Nat × List Value)} {s : Sl} {its : List It}
theorem fill_ok (hA : At w0 D (m ++ its.map It.blk) w) (hs : VecE rs ESl s (its.map It.sl)) (hrs : ∀ p ∈ rs, p ∈ m) (hok : ∀ i ∈ its, i.Ok) (hn : its.length ≤ 1048576) (hv : ∀ i ∈ its, i.vals.length ≤ 1048576) (t : Str) {K : World → Prop}
    (hK : ∀ w', At w0 D (m ++ (its.map (It.fill t)).map It.blk) w' → K w') : callK Try.prog 15 [.leaf (.sl s), .leaf (.str t)] w (.tup []) K := by
  refine go_winnowlaw11_fill _ _ _ _ ?_
  unfold S_winnowlaw11_fill
  have hsr : ∀ {w' : World} {l : List (Nat × List Value)}, At w0 D l w' → (∀ p ∈ m, p ∈ l) → RdS w' ESl s (its.map It.sl) := fun hA' hm => (hs.vec fun p hp => hA'.own p (hm p (hrs p hp))).rd
  have hsl : s.len = its.length := by rw [hs.1]; simp
  refine join0 (fun w' => At w0 D (m ++ (its.map (It.fill t)).map It.blk) w') (fun k hk => ?_) fun w' h => hK w' h
  refine loop1 (k := .int .i64) (fun x w' => ∃ i : Nat, x = i ∧ i ≤ its.length ∧ At w0 D (m ++ ((its.take i).map (It.fill t) ++ its.drop i).map It.blk) w') (fun x _ => its.length - x.toNat) rfl ⟨0, rfl, Nat.zero_le _, by simpa using hA⟩ ?_
  rintro x w6 ⟨i, rfl, hi, hA6⟩
  refine ifK_intro (fun hlt => ?_) (fun hlt => ?_)
  rotate_left
  · have hge : i = its.length := by rw [hsl] at hlt; have : ¬ i < its.length := by simpa using hlt
                                    omega
    subst hge
    rw [List.take_length, List.drop_length, List.append_nil] at hA6
    exact hk _ hA6
  have hlt' : i < its.length := by rw [hsl] at hlt; simpa using hlt
  have hoki := hok _ (List.getElem_mem hlt')
  have hvi := hv _ (List.getElem_mem hlt')
  have hsi : (its.map It.sl)[i]? = some its[i].sl := by simp [hlt']
  have hdr : its.drop i = its[i] :: its.drop (i + 1) := List.drop_eq_getElem_cons hlt'
  have htk : its.take (i + 1) = its.take i ++ [its[i]] := by rw [List.take_add_one, List.getElem?_eq_getElem hlt']; rfl
  generalize hit : its[i] = it at hoki hvi hsi hdr htk
  rw [hdr] at hA6
  generalize hM : m ++ ((its.take i).map (It.fill t) ++ its.drop (i + 1)).map It.blk = M
  have hmM : ∀ p ∈ m, ∀ (l : List (Nat × List Value)), p ∈ M ++ l := fun p hp l => by rw [← hM]; simp [hp]
  let itk (k : Nat) : It := { it with vals := List.replicate k t ++ it.vals.drop k }
  have hA6' : At w0 D (M ++ [(itk 0).blk]) w6 := by
    have h1 := hA6.perm (perm_item It.blk m ((its.take i).map (It.fill t)) (its.drop (i + 1)) it)
    rw [hM] at h1
    simpa [itk] using h1
  refine join0 (fun w' => At w0 D (M ++ [(it.fill t).blk]) w') (fun k2 hk2 => ?_) ?_
  · refine loop1 (k := .int .i64) (fun x w' => ∃ k : Nat, x = k ∧ k ≤ it.vals.length ∧ At w0 D (M ++ [(itk k).blk]) w') (fun x _ => it.vals.length - x.toNat) rfl ⟨0, rfl, Nat.zero_le _, hA6'⟩ ?_
    rintro x w10 ⟨k, rfl, hk', hA10⟩
    have hr10 := hsr hA10 fun p hp => hmM p hp _
    refine hr10.ix rfl rfl hsi fun b o _ hc => ld_cell (k := .sl) it.sl (hc 0 (by decide)) (ifK_intro (fun hlt => ?_) (fun hlt => hk2 _ ?_))
    · have hlt2 : k < it.vals.length := by have : ((k : Nat) : Int) < (it.vals.length : Nat) := by simpa [It.sl] using hlt
                                           omega
      refine hr10.ix rfl rfl hsi fun b o _ hc => ld_cell (k := .sl) it.sl (hc 0 (by decide)) ?_
      refine ix_some (b := it.b) (o := 0) rfl (by omega) (show ((k : Nat) : Int) < (it.vals.length : Nat) by omega) ?_ (hc := hoki.le)
      have hget : (itk k).vals[k]? = some it.vals[k] := by
        show (List.replicate k t ++ it.vals.drop k)[k]? = _
        rw [List.getElem?_append_right (by simp)]
        simp [hlt2]
      have hset := EStr.cells_set (itk k).vals k 0 [(LV.str t).toV] it.vals[k] t it.rest hget (Nat.le_refl 1) rfl
      have hvset : (itk k).vals.set k t = (itk (k + 1)).vals := by
        show (List.replicate k t ++ it.vals.drop k).set k t = List.replicate (k + 1) t ++ it.vals.drop (k + 1)
        rw [List.set_append_right _ _ (by simp)]
        simp only [List.length_replicate, Nat.sub_self]
        rw [List.drop_eq_getElem_cons hlt2, List.set_cons_zero, List.replicate_succ', List.append_assoc]; rfl
      rw [hvset] at hset
      have hlen10 : (EStr.cells (itk k).vals ++ it.rest).length = it.cap := by
        have : (EStr.cells it.vals ++ it.rest).length = it.cap := hoki
        rw [List.length_append, EStr_len] at this ⊢
        have e : (itk k).vals.length = it.vals.length := by simp [itk]; omega
        rw [e]; exact this
      have hle := hoki.le
      refine At.last (b := it.b) hA10 (o := 0 + (k : Int).toNat * 1) (vs := [.str t]) (by show 0 + (k : Int).toNat * 1 + 1 ≤ (EStr.cells (itk k).vals ++ it.rest).length; rw [hlen10]; omega) fun w19 hA19 => ?_
      rw [set_step (by omega)]
      refine ⟨⟨k + 1, rfl, hlt2, ?_⟩, by simp; omega⟩
      have e : 0 + (k : Int).toNat * 1 = k * EStr.n + 0 := by simp [EStr]
      rw [e] at hA19
      have hset' : spl (EStr.cells (itk k).vals ++ (itk k).rest) (k * EStr.n + 0) (List.map LV.toV [.str t]) = EStr.cells (itk (k + 1)).vals ++ it.rest := hset
      rw [hset'] at hA19
      exact hA19
    · have hge : k = it.vals.length := by have : ¬ ((k : Nat) : Int) < (it.vals.length : Nat) := by simpa [It.sl] using hlt
                                          omega
      subst hge
      have : itk it.vals.length = it.fill t := by simp [itk, It.fill]
      rw [← this]; exact hA10
  · intro w20 hA20
    rw [set_step (by omega)]
    refine ⟨⟨i + 1, rfl, hlt', ?_⟩, by simp; omega⟩
    rw [← hM] at hA20
    have h1 := hA20.perm (perm_item It.blk m ((its.take i).map (It.fill t)) (its.drop (i + 1)) (it.fill t)).symm
    have e : (its.take (i + 1)).map (It.fill t) ++ its.drop (i + 1) = (its.take i).map (It.fill t) ++ it.fill t :: its.drop (i + 1) := by rw [htk]; simp
    rw [e]
    exact h1
theorem grow_ok (hA : At w0 D (m ++ its.map It.blk) w) (hs : VecE rs ESl s (its.map It.sl)) (hrs : ∀ p ∈ rs, p ∈ m) (hok : ∀ i ∈ its, i.Ok) (hn : its.length ≤ 1048576) (hv : ∀ i ∈ its, i.vals.length ≤ 1048576) {K : World → Prop}
    (hK : ∀ (w' : World) (its' : List It), At w0 D (m ++ its'.map It.blk) w' → its'.map It.key = its.map It.key → (∀ i ∈ its', i.Ok) → K w') : callK Try.prog 16 [.leaf (.sl s)] w (.tup []) K := by
  refine go_winnowlaw11_grow _ _ _ ?_
  unfold S_winnowlaw11_grow
  have hsl : s.len = its.length := by rw [hs.1]; simp
  refine join0 (fun w' => ∃ its' : List It, At w0 D (m ++ its'.map It.blk) w' ∧ its'.map It.key = its.map It.key ∧ ∀ i ∈ its', i.Ok) (fun k hk => ?_) fun w' ⟨its', h1, h2, h3⟩ => hK w' its' h1 h2 h3
  refine loop1 (k := .int .i64) (fun x w' => ∃ (i : Nat) (its' : List It), x = i ∧ i ≤ its.length ∧ At w0 D (m ++ its'.map It.blk) w' ∧ its'.map It.key = its.map It.key ∧ ∀ i ∈ its', i.Ok) (fun x _ => its.length - x.toNat) rfl ⟨0, its, rfl, Nat.zero_le _, hA, rfl, hok⟩ ?_
  rintro x w5 ⟨i, its', rfl, hi, hA5, hkey, hok5⟩
  have hlen5 : its'.length = its.length := by have := congrArg List.length hkey; simpa using this
  refine ifK_intro (fun hlt => ?_) (fun _ => hk _ ⟨its', hA5, hkey, hok5⟩)
  have hlt' : i < its'.length := by rw [hsl] at hlt; have : i < its.length := by simpa using hlt
                                    omega
  have hr5 : RdS w5 ESl s (its'.map It.sl) := by rw [sl_of_key hkey]; exact (hs.vec fun p hp => hA5.own p (List.mem_append_left _ (hrs p hp))).rd
  have hsi : (its'.map It.sl)[i]? = some its'[i].sl := by simp [hlt']
  have hoki := hok5 _ (List.getElem_mem hlt')
  have hvi : its'[i].vals.length ≤ 1048576 := by
    have hk1 : (its'.map It.key)[i]? = some its'[i].key := by simp [hlt']
    rw [hkey] at hk1
    have hlt2 : i < its.length := by omega
    have hk2 : (its.map It.key)[i]? = some its[i].key := by simp [hlt2]
    rw [hk2] at hk1
    have := hv _ (List.getElem_mem hlt2)
    have e : its[i].vals = its'[i].vals := congrArg (fun p => p.2.2) (Option.some.inj hk1)
    rw [← e]; exact this
  have hspl : its' = its'.take i ++ its'[i] :: its'.drop (i + 1) := by rw [← List.drop_eq_getElem_cons hlt', List.take_append_drop]
  generalize hit : its'[i] = it at hsi hoki hvi hspl
  generalize hM : m ++ (its'.take i ++ its'.drop (i + 1)).map It.blk = M
  have hA5' : At w0 D (M ++ [it.blk]) w5 := by
    have h0 := hA5
    rw [hspl] at h0
    have h1 := h0.perm (perm_item It.blk m (its'.take i) (its'.drop (i + 1)) it)
    rw [hM] at h1; exact h1
  refine hr5.ix rfl rfl hsi fun b o _ hc => ld_cell (k := .sl) it.sl (hc 0 (by decide)) ?_
  refine join0 (fun w' => ∃ rest, At w0 D (M ++ [(it.b, EStr.cells it.vals ++ rest)]) w' ∧ (EStr.cells it.vals ++ rest).length = it.cap) (fun k2 hk2 => ?_) ?_
  · refine loop2 (k1 := .sl) (k2 := .int .i64) (fun l x w' => ∃ (k : Nat) (rest : List Value) (ro : List (Nat × List Value)), x = k ∧ k ≤ 64 ∧ At w0 D ((M ++ [(it.b, EStr.cells it.vals ++ rest)]) ++ ro) w' ∧ (EStr.cells it.vals ++ rest).length = it.cap ∧
        ((ro = [] ∧ l = ⟨some (it.b, 0), it.vals.length + k, it.cap⟩ ∧ ∃ extra rest2, extra.length = k ∧ rest = EStr.cells extra ++ rest2) ∨ ∃ L, VecE ro EStr l L ∧ L.length = it.vals.length + k)) (fun _ x _ => 64 - x.toNat) rfl rfl
      ⟨0, it.rest, [], rfl, by omega, by rw [List.append_nil]; exact hA5', hoki, .inl ⟨rfl, rfl, [], it.rest, rfl, rfl⟩⟩ ?_
    rintro l x w13 ⟨k, rest, ro, rfl, hk64, hA13, hcap, hst⟩
    refine ifK_intro (fun hlt => ?_) (fun _ => hk2 _ ⟨rest, hA13.sub (List.sublist_append_left _ _), hcap⟩)
    have hlt2 : k < 64 := by have : ((k : Nat) : Int) < 64 := by simpa using hlt
                             omega
    refine hA13.alK fun b14 w15 hb14 hA15 M15 => ?_
    have hx15 : RdS w15 EStr ⟨some (b14, 0), 1, 1⟩ [[98, 101, 104, 105, 110, 100]] := rd_one (hA15.own (b14, EStr.f [98, 101, 104, 105, 110, 100]) (List.mem_append_right _ (List.mem_singleton.2 rfl)))
    rcases hst with ⟨rfl, rfl, extra, rest2, he, rfl⟩ | ⟨L, hL, hLl⟩
    · rw [List.append_nil] at hA13 hA15
      have hA15' : At w0 D (M ++ [(it.b, EStr.cells it.vals ++ (EStr.cells extra ++ rest2))]) w15 := hA15.sub (List.sublist_append_left _ _)
      have hvec : Vec w15 EStr ⟨some (it.b, 0), it.vals.length + k, it.cap⟩ (it.vals ++ extra) := by
        refine ⟨by simp [he], .inr ⟨it.b, rest2, rfl, ?_, ?_⟩⟩
        · have := hA15'.own (it.b, EStr.cells it.vals ++ (EStr.cells extra ++ rest2)) (by simp)
          rw [EStr.cells_append, List.append_assoc]; exact this
        · rw [EStr.cells_append, List.append_assoc, hcap]; simp [EStr]
      refine hvec.app hx15 rfl rfl (by simp; omega) fun l' w17 hv17 hbk M17 hor => ?_
      rw [set_step (by omega)]
      rcases hor with ⟨hp, hc'⟩ | ⟨⟨b', hp, hfr⟩, M17'⟩
      · rcases hv17.own with ⟨hp0, _, _⟩ | ⟨b', rest3, hp', hb', hl'⟩
        · rw [hp] at hp0; cases hp0
        · rw [hp] at hp'; cases hp'
          have hnd := hA15'.nodup
          have hnb : ∀ p ∈ M, p.1 ≠ it.b := fun p hp e => by
            rw [List.map_append, List.nodup_append] at hnd
            exact hnd.2.2 _ (List.mem_map_of_mem hp) _ (by simp) e
          have hD : it.b < w0.heap.size → D it.b := fun h => hA15'.wr (it.b, EStr.cells it.vals ++ (EStr.cells extra ++ rest2)) (by simp) h
          have hAM : At w0 D M w17 := (hA15'.sub (List.sublist_append_left _ _)).keep M17 (fun x hx ⟨o, e⟩ => by cases e; exact hD hx) fun p hp ⟨o, e⟩ => hnb p hp (by injection e with e; injection e with e1 _; exact e1.symm)
          have hA17 := hAM.add hb' hnb hD
          rw [hc'] at hl'
          refine ⟨⟨k + 1, EStr.cells (extra ++ [[98, 101, 104, 105, 110, 100]]) ++ rest3, [], rfl, by omega, ?_, ?_, .inl ⟨rfl, ?_, _, rest3, by simp [he], rfl⟩⟩, by simp; omega⟩
          · rw [List.append_nil]
            rw [EStr.cells_append, EStr.cells_append, List.append_assoc, List.append_assoc] at hA17
            rw [EStr.cells_append, List.append_assoc]; exact hA17
          · rw [EStr.cells_append, EStr.cells_append, List.append_assoc, List.append_assoc] at hl'
            rw [EStr.cells_append, List.append_assoc, hl']; simp [EStr]
          · obtain ⟨p', n', c'⟩ := l'
            have hln := hv17.len
            simp only at hp hc' hln
            subst hp; subst hc'
            simp at hln
            rw [hln, he]
      · rcases hv17.own with ⟨hp0, _, _⟩ | ⟨b2, rest3, hp', hb', hl'⟩
        · rw [hp] at hp0; cases hp0
        · rw [hp] at hp'; cases hp'
          have hA17 := hA15'.mkAdd M17' hb' hfr
          exact ⟨⟨k + 1, _, [(b', _)], rfl, by omega, hA17, hcap, .inr ⟨_, ⟨hv17.len, .inr ⟨b', rest3, rfl, hp, hl'⟩⟩, by simp [he]⟩⟩, by simp; omega⟩
    · have hA15' : At w0 D (((M ++ [(it.b, EStr.cells it.vals ++ rest)]) ++ [(b14, EStr.f [98, 101, 104, 105, 110, 100])]) ++ ro) w15 := hA15.perm (perm_tail3 _ _ _)
      refine hA15'.app hL hx15 rfl rfl (by simp; omega) fun l' ro' w17 hA17 hv17 _ => ?_
      rw [set_step (by omega)]
      exact ⟨⟨k + 1, rest, ro', rfl, by omega, hA17.sub (List.Sublist.append_right (List.sublist_append_left _ _) _), hcap, .inr ⟨_, hv17, by simp; omega⟩⟩, by simp; omega⟩
  · rintro w18 ⟨rest, hA18, hcap⟩
    rw [set_step (by omega)]
    have h1 : At w0 D (m ++ ((its'.take i ++ { it with rest := rest } :: its'.drop (i + 1)).map It.blk)) w18 := by
      rw [← hM] at hA18
      exact hA18.perm (perm_item It.blk m (its'.take i) (its'.drop (i + 1)) { it with rest := rest }).symm
    refine ⟨⟨i + 1, _, rfl, by omega, h1, ?_, fun j hj => ?_⟩, by simp; omega⟩
    · rw [← hkey]
      conv => rhs; rw [hspl]
      simp [It.key]
    · rcases List.mem_append.1 hj with hj | hj
      · exact hok5 j (List.mem_of_mem_take hj)
      · rcases List.mem_cons.1 hj with rfl | hj
        · exact hcap
        · exact hok5 j (List.mem_of_mem_drop hj)
theorem filled_ok {t : Str} (hr : RdS w ESl s (its.map It.sl)) (hi : ∀ i ∈ its, ∃ n, RdS w EStr i.sl (List.replicate n t) ∧ n ≤ 1048576) (hn : its.length ≤ 1048576) {K : Bool → World → Prop} (hK : K true w) : callK Try.prog 17 [.leaf (.sl s), .leaf (.str t)] w (.one (.leaf .bool)) K := by
  refine go_winnowlaw11_filled _ _ _ _ ?_
  unfold S_winnowlaw11_filled
  refine join0 (fun w' => w' = w) (fun k hk => ?_) fun w' hw' => by rw [hw']; exact hK
  refine loop1 (k := .int .i64) (fun x w' => w' = w ∧ ∃ i : Nat, x = i ∧ i ≤ its.length) (fun x _ => its.length - x.toNat) rfl ⟨rfl, 0, rfl, Nat.zero_le _⟩ ?_
  rintro x w6 ⟨hw6, i, rfl, hil⟩
  rw [hw6]
  refine ifK_intro (fun hlt => ?_) (fun _ => hk _ rfl)
  have hlt' : i < its.length := by rw [hr.len] at hlt; simpa using hlt
  have hsi : (its.map It.sl)[i]? = some its[i].sl := by simp [hlt']
  obtain ⟨n, hrn, hnl⟩ := hi _ (List.getElem_mem hlt')
  refine join0 (fun w' => w' = w) (fun k2 hk2 => ?_) ?_
  · refine loop1 (k := .int .i64) (fun x w' => w' = w ∧ ∃ k : Nat, x = k ∧ k ≤ n) (fun x _ => n - x.toNat) rfl ⟨rfl, 0, rfl, Nat.zero_le _⟩ ?_
    rintro x w10 ⟨hw10, k, rfl, hkn⟩
    rw [hw10]
    refine hr.ix rfl rfl hsi fun b o _ hc => ld_cell (k := .sl) its[i].sl (hc 0 (by decide)) (ifK_intro (fun hlt => ?_) (fun _ => hk2 _ rfl))
    have hlt2 : k < n := by rw [hrn.len] at hlt; simpa using hlt
    refine hr.ix rfl rfl hsi fun b o _ hc => ld_cell (k := .sl) its[i].sl (hc 0 (by decide)) ?_
    refine hrn.ix rfl rfl (k := k) (x := t) (by simp [hlt2]) fun b o _ hc => ld_cell (k := .str) t (hc 0 (by decide)) (ifK_f (by simp) ?_)
    rw [set_step (by omega)]
    exact ⟨⟨rfl, k + 1, rfl, hlt2⟩, by simp; omega⟩
  · intro w20 hw20
    rw [hw20, set_step (by omega)]
    exact ⟨⟨rfl, i + 1, rfl, hlt'⟩, by simp; omega⟩
end
end Go.Proofs.Ytfhojgammfkabaa
