/- Resize: a blob is cut, or made longer. -/
import Derived.Test.YtjldecomhpngmaaVE
namespace Go.Proofs.Ytjldecomhpngmaa
open Go.Vw

theorem info5 : ∃ i, Try.prog.info? 5 = some i ∧ i.bytes = 1 ∧ i.size = 1 := by
  have h1 : (Try.prog.info? 5).map (fun i => (i.bytes, i.size)) = some (1, 1) := by kernel_rfl
  obtain ⟨i, hi, he⟩ := Option.map_eq_some_iff.1 h1
  simp only [Prod.mk.injEq] at he
  exact ⟨i, hi, he.1, he.2⟩
theorem zero_u8 (n : Nat) : Builtin.zeroCells (Value.int .u8 0).cells n = (EU.cells (List.replicate n 0)).toArray := by
  unfold Builtin.zeroCells
  rw [zero_flat]
  congr 1
  exact cells_repl EU n 0 _ rfl
/-- append(s, make([]byte, n)...) -/
theorem append_made {w0 w : World} {D : Nat → Prop} {m ro : List (Nat × List Value)} (hA : At w0 D (m ++ ro) w) {s : Sl} {l : List Int} (hv : VecL ro EU s l) {n : Nat} (h0 : 0 < n) (hlim : l.length + n ≤ 268435456)
    {K : Sl → World → Prop} (hK : ∀ s' ro' w', At w0 D (m ++ ro') w' → VecL ro' EU s' (l ++ List.replicate n 0) → Mod (Ks ro) w w' → K s' w') :
    opF Try.prog (builtin .append #[22, 2] 22 #[false, false] #[(LV.toV (.sl s)), (LV.toV (.int .i64 (n : Int)))]) w (.one (.leaf .sl)) K := by
  obtain ⟨i, hi, hib, his⟩ := info5
  have hin : ∀ w, (typeInfo 5).run Try.prog w = .ok i w := fun w => by simp [typeInfo, hi]
  have hsl : s.len = l.length := hv.1
  have hw : IntKind.wrap .i64 (n : Int) = n := w64_in (by omega) (by omega)
  have h48 : (2 : Nat) ^ 48 = 281474976710656 := by decide
  have h48i : (2 : Int) ^ 48 = 281474976710656 := by decide
  have hneg : ¬ ((n : Int) < 0) := by omega
  have hbig : ¬ ((n : Int) * ((i.bytes : Nat) : Int) > 2 ^ 48) := by rw [hib, h48i]; omega
  have hn0 : ¬ (n * 1 = 0) := by omega
  suffices hs : ∃ s' w', (Builtin.append_ #[22, 2] 22 #[(LV.toV (.sl s)), (LV.toV (.int .i64 (n : Int)))]).run Try.prog w = .ok (LV.toV (.sl s')) w' ∧ K s' w' by
    obtain ⟨s', w', hr, hk⟩ := hs
    refine ⟨[.sl s'], w', ?_, hk⟩
    show (Sem.run _ (vS _) w) = _
    simp only [vS, Sem.run_bind, hr, Result.andThen_ok, Sem.run_pure]
    rfl
  have pre : ∀ (R : Result Value), (Sem.run Try.prog (if s.len + n ≤ s.cap then do
      let new ← (do pure (Builtin.zeroCells (← zeroValue 5).cells n) : Sem (Array Value))
      if let some a := slA s.cap s.p then storeCells (a.add (s.len * 1)) new.toList
      pure (.slice (slA s.cap s.p) (s.len + n) s.cap)
    else do
      if ((s.len + n : Nat) : Int) > IntKind.i64.max ∧ (True ∨ (← typeInfo 5).bytes = 0) then runtimePanic (.error "growslice: len out of range")
      if Builtin.nextslicecap (s.len + n) s.cap * (← typeInfo 5).bytes > 2 ^ 48 then runtimePanic (.error "growslice: len out of range")
      let newCap ← choose (.appendCap (s.len + n) s.cap 5)
      askRoom (newCap * (← typeInfo 5).bytes)
      let old ← Builtin.firstCells 1 s.len (.slice (slA s.cap s.p) s.len s.cap)
      let new ← (do pure (Builtin.zeroCells (← zeroValue 5).cells n) : Sem (Array Value))
      let rest := Builtin.zeroCells (← zeroValue 5).cells (newCap - (s.len + n))
      pure (.slice (some (← newRow 5 (old ++ new ++ rest))) (s.len + n) newCap)) w) = R →
      (Builtin.append_ #[22, 2] 22 #[(LV.toV (.sl s)), (LV.toV (.int .i64 (n : Int)))]).run Try.prog w = R := by
    intro R h
    rw [← h]
    unfold Builtin.append_
    simp only [List.getElem?_toArray, List.getElem?_cons_zero, List.getElem?_cons_succ, Sem.run_bind, run_underlying Try.underlying22, run_underlying Try.underlying2, Result.andThen_ok, LV.toV, Try.sizeOf5, Sem.run_pure, asInt, asIntOf, hw, if_true, if_neg hneg, hin, if_neg hbig, if_neg hn0, Int.toNat_natCast, Bool.not_true, Bool.false_eq_true, if_false]
    rfl
  have hz5 : ∀ w, (zeroValue 5).run Try.prog w = .ok (.int .u8 0) w := Try.zeroValue5
  have hlen : (EU.cells l).length = s.len := by rw [EU.cells_length, hsl]; simp [EU]
  have hlz : (EU.cells (List.replicate n (0 : Int))).length = n := by rw [EU.cells_length]; simp [EU]
  by_cases hle : s.len + n ≤ s.cap
  · rcases hv.2.2 with ⟨rfl, hn, hc0⟩ | ⟨b, rest, rfl, hp, hc⟩
    · omega
    · have hc : s.cap ≤ (EU.cells l ++ rest).length := by simpa [EU] using hc
      have hfit : s.len + (EU.cells (List.replicate n (0 : Int))).length ≤ (EU.cells l ++ rest).length := by rw [hlz]; omega
      have hspl : spl (EU.cells l ++ rest) s.len (EU.cells (List.replicate n 0)) = EU.cells (l ++ List.replicate n 0) ++ rest.drop n := by
        rw [spl_eq _ _ _ hfit, ← hlen, List.take_left, List.drop_length_add_append, EU.cells_append, hlz]
      have hi' : (m ++ [(b, EU.cells l ++ rest)])[m.length]? = some (b, EU.cells l ++ rest) := by simp
      have hA' := hA.setCells hi' s.len (EU.cells (List.replicate n 0))
      rw [hspl, set_last] at hA'
      have hb : Blk w b (EU.cells l ++ rest) := hA.blk hi'
      have hok : okCells w b (0 + s.len + 0) (EU.cells (List.replicate n (0 : Int))).length := fun j hj =>
        ⟨⟨(EU.cells l ++ rest)[s.len + j]'(by omega), by rw [hb.cell, Nat.zero_add, Nat.add_zero, List.getElem?_eq_getElem]⟩, hb.frz _⟩
      have hst := storeRow (P := Try.prog) (EU.cells (List.replicate n 0)) w b (0 + s.len) 0 (EU.cells_isCell _) hok
      simp only [Nat.zero_add, Nat.add_zero] at hst
      refine ⟨⟨s.p, s.len + n, s.cap⟩, _, pre _ ?_, hK ⟨s.p, s.len + n, s.cap⟩ [(b, EU.cells (l ++ List.replicate n 0) ++ rest.drop n)] _ hA' ⟨by simp [hsl], hle, .inr ⟨b, _, rfl, hp, ?_⟩⟩ ?_⟩
      · rw [if_pos hle]
        have hpv : slA s.cap s.p = some ⟨b, 0, none⟩ := by rw [hp, slA_zero]
        simp only [hpv, Sem.run_bind, hz5, Result.andThen_ok, Sem.run_pure, zero_u8, Addr.add_none, Nat.zero_add, Nat.mul_one, hst]
        simp only [LV.toV, hpv]
      · rw [← hspl, spl_length]; simpa [EU] using hc
      · exact (Mod.setCells ..).mono fun y _ e => ⟨_, List.mem_singleton.2 rfl, e.symm⟩
  · have hcap := nextcap_le (s.len + n) s.cap (by omega)
    have hb1 : ¬ (((s.len + n : Nat) : Int) > IntKind.i64.max ∧ (True ∨ i.bytes = 0)) := by
      rintro ⟨hg, _⟩
      have : IntKind.i64.max = 9223372036854775807 := by decide
      rw [this] at hg; omega
    have hb2 : ¬ (Builtin.nextslicecap (s.len + n) s.cap * i.bytes > 2 ^ 48) := by rw [hib, h48]; omega
    have hr1 : RdS w EU s l := hv.rd fun p hp => hA.own p (List.mem_append_right _ hp)
    have hrc : rdCells w.drew s (s.len * 1) (EU.cells l) := hr1.cells (by rw [hlen, Nat.mul_one])
    have hof : (Builtin.firstCells 1 s.len (.slice (slA s.cap s.p) s.len s.cap)).run Try.prog w.drew = .ok (EU.cells l).toArray w.drew := firstRow hrc
    have hcut : ∀ t : Nat, s.len + n ≤ Question.cut (.appendCap (s.len + n) s.cap 5) t := fun t => by simp [Question.cut]
    have hcc := hcut (w.tape w.drawn (.appendCap (s.len + n) s.cap 5))
    have hdr : (choose (.appendCap (s.len + n) s.cap 5)).run Try.prog w = .ok (Question.cut (.appendCap (s.len + n) s.cap 5) (w.tape w.drawn (.appendCap (s.len + n) s.cap 5))) w.drew := by
      simp only [run_choose, Question.forced, Bool.false_eq_true, if_false]; rfl
    generalize Question.cut (.appendCap (s.len + n) s.cap 5) (w.tape w.drawn (.appendCap (s.len + n) s.cap 5)) = c at hcc hdr
    have hE : ∀ a b c : List Value, a.toArray ++ b.toArray ++ c.toArray = (a ++ b ++ c).toArray := fun a b c => by simp
    refine ⟨⟨some (w.heap.size, 0), s.len + n, c⟩, w.drew.alloc (.cells (EU.cells l ++ EU.cells (List.replicate n 0) ++ EU.cells (List.replicate (c - (s.len + n)) 0)).toArray 5), pre _ ?_, ?_⟩
    · rw [if_neg hle]
      simp only [Sem.run_bind, Sem.run_ite, hin, Result.andThen_ok, if_neg hb1, if_neg hb2, Sem.run_pure, hdr, run_askRoom, hof, hz5, zero_u8, newRow, run_newObj, hE]
      simp only [LV.toV, slA_zero]
      rfl
    · have hA' := hA.drew.al (EU.cells l ++ EU.cells (List.replicate n 0) ++ EU.cells (List.replicate (c - (s.len + n)) 0)) 5
      have hA2 : At w0 D (m ++ [(w.drew.heap.size, EU.cells l ++ EU.cells (List.replicate n 0) ++ EU.cells (List.replicate (c - (s.len + n)) 0))]) _ := hA'.sub ((List.sublist_append_left m ro).append (List.Sublist.refl _))
      refine hK _ [(w.drew.heap.size, EU.cells (l ++ List.replicate n 0) ++ EU.cells (List.replicate (c - (s.len + n)) 0))] _ (by rw [EU.cells_append]; exact hA2) ⟨by simp [hsl], hcc, .inr ⟨_, _, rfl, rfl, ?_⟩⟩ ((Mod.drew _ w).trans (Mod.alloc _ w.drew _) (fun _ _ h => h) (fun _ _ h => h))
      simp only [List.length_append, EU.cells_length, List.length_replicate]
      simp [EU]; omega
theorem VecL.cut0 {α : Type} {ro : List (Nat × List Value)} {E : Enc α} {s : Sl} {l : List α} (h : VecL ro E s l) {q : Nat} (hq : q ≤ l.length) : VecL ro E (s.cut E.n 0 q q) (l.take q) := by
  refine ⟨by simp [Sl.cut]; omega, by simp [Sl.cut], ?_⟩
  have h1 := h.1
  have h2 := h.2.1
  rcases h.2.2 with ⟨e1, e2, e3⟩ | ⟨b, rest, e1, e2, e3⟩
  · have : q = 0 := by omega
    subst this
    exact .inl ⟨e1, by simp [Sl.cut, e2, e3], by simp [Sl.cut]⟩
  · have hc : E.cells l = E.cells (l.take q) ++ E.cells (l.drop q) := by rw [← E.cells_append, List.take_append_drop]
    refine .inr ⟨b, E.cells (l.drop q) ++ rest, by rw [e1, hc, List.append_assoc], ?_, ?_⟩
    · by_cases h0 : q = 0
      · subst h0
        by_cases h3 : s.cap = 0
        · simp [Sl.cut, h3, e2]
        · simp [Sl.cut, h3, e2]
      · simp [Sl.cut, h0, e2]
    · have e4 : q * E.n ≤ s.cap * E.n := Nat.mul_le_mul_right _ (by omega)
      rw [hc, List.append_assoc] at e3
      simp only [Sl.cut, Nat.sub_zero]
      omega
section
variable {w0 w : World} {m : List (Nat × List Value)} {g : SG}
def resizeA (n : Str) (d : Int) (a : Abs) : Int × Abs := match askA n a with
  | (c, none) => (c, a)
  | (_, some b) => if d < -(b.data.length : Int) ∨ 268435456 - (b.data.length : Int) < d then (56, a) else
    if 0 < d then (0, putA n { b with data := b.data ++ List.replicate d.toNat 0 } a) else (0, putA n { b with data := b.data.take (b.data.length + d).toNat } a)
theorem resize_ok (h : StA w0 m 0 g w) (n : Str) (d : Int) {K : Int → World → Prop} (hK : ∀ g' w', Nx w0 m 0 g w (resizeA n d g.abs).2 g.mt g' w' → K (resizeA n d g.abs).1 w') :
    callK Try.prog 19 [.leaf (.ptr (some (g.bs, 0))), .leaf (.str n), .leaf (.int .i64 d)] w (.one (.leaf (.int .i64))) K := by
  refine go_store_Store_Resize _ _ _ _ _ ?_
  refine ifK_f rfl (dr_some (lock_ok h fun w1 h1 _ => dr_some ?_))
  refine find_ok h1.st n (fun c hc hc2 _ => ?_) fun A e B he hn hA ha => ?_
  · have e1 : resizeA n d g.abs = (c, g.abs) := by unfold resizeA; rw [hc]
    rw [e1] at hK
    exact ifK_t (by simpa using askA_c hc) (unlock_ok h1 fun w4 h4 _ => hK _ _ h4)
  refine ifK_f rfl (dr_some (h1.st.ldE he (k := .sl) e.sl rfl ?_))
  have hok := h1.st.okOf he
  have hv := h1.st.vecOf he
  have hsl : e.sl.len = e.bl.data.length := hv.1
  have hcap := hv.2.1
  have hk3 := hok.len
  rw [hsl]
  have hs1 : w64 (0 - (e.bl.data.length : Int)) = -(e.bl.data.length : Int) := by rw [w64_in (by omega) (by omega)]; omega
  have hs2 : w64 (268435456 - (e.bl.data.length : Int)) = 268435456 - (e.bl.data.length : Int) := by rw [w64_in (by omega) (by omega)]
  rw [hs1, hs2]
  refine join1 (fun c u => u = w1 ∧ (c = true ↔ d < -(e.bl.data.length : Int) ∨ 268435456 - (e.bl.data.length : Int) < d)) ?_ ?_
  · intro k2 hk2
    refine ifK_intro (fun h2 => hk2 _ _ ⟨rfl, ?_⟩) fun h2 => hk2 _ _ ⟨rfl, ?_⟩
    · have h2 : d < -(e.bl.data.length : Int) := by simpa using h2
      exact ⟨fun _ => .inl h2, fun _ => rfl⟩
    · have h2 : ¬ d < -(e.bl.data.length : Int) := by simpa using h2
      rw [decide_eq_true_eq]; omega
  rintro c u ⟨rfl, hc⟩
  refine ifK_intro (fun h2 => ?_) fun h2 => ?_
  · have e1 : resizeA n d g.abs = (56, g.abs) := by unfold resizeA; rw [ha]; simp only; rw [if_pos (hc.1 h2)]
    rw [e1] at hK
    exact unlock_ok h1 fun w4 h4 _ => hK _ _ h4
  have h2 : ¬ (d < -(e.bl.data.length : Int) ∨ 268435456 - (e.bl.data.length : Int) < d) := fun x => by rw [hc.2 x] at h2; cases h2
  refine join0 (fun w2 => ∃ g2, Nx w0 m 1 g w (resizeA n d g.abs).2 g.mt g2 w2 ∧ (resizeA n d g.abs).1 = 0) ?_ ?_
  · intro k20 hk20
    refine ifK_intro (fun h3 => ?_) fun h3 => ?_
    · have h3 : 0 < d := by simpa using h3
      have e1 : resizeA n d g.abs = (0, putA n { e.bl with data := e.bl.data ++ List.replicate d.toNat 0 } g.abs) := by unfold resizeA; rw [ha]; simp only; rw [if_neg h2, if_pos h3]
      rw [e1] at hk20
      refine dr_some (h1.st.ldE he (k := .sl) e.sl rfl ?_)
      have hd : d = ((d.toNat : Nat) : Int) := by omega
      generalize d.toNat = q at hd hk20
      subst hd
      refine append_made (h1.st.focus he) hv (by omega) (by omega) fun s' ro' w4 hA4 hv4 hM4 => dr_some ?_
      have hby' : ∀ x ∈ e.bl.data ++ List.replicate q 0, 0 ≤ x ∧ x < 256 := fun x hx => by
        rcases List.mem_append.1 hx with hx | hx
        · exact hok.byte x hx
        · have := List.eq_of_mem_replicate hx; omega
      have hlen' : (e.bl.data ++ List.replicate q 0).length ≤ 268435456 := by simp; omega
      refine h1.st.stA he hA4 hM4 (o := 0) (vs := [.sl s']) (b' := { e.bl with data := e.bl.data ++ List.replicate q 0 }) (sl' := s') rfl hv4 ⟨hok.lo, hok.hi, hlen', hby'⟩ (by simp) fun w5 h5 hM5 => ?_
      have hn6 := h1.of h5 rfl rfl hM5 fun x _ hx => by
        rcases hx with rfl | hx
        · exact D_bb he
        · exact D_ro he hx
      exact hk20 _ ⟨_, hn6.cast (abs_put (g := g) (e := e) (sl' := s') (ro' := ro') (b' := { e.bl with data := e.bl.data ++ List.replicate q 0 }) he hn hA) rfl, rfl⟩
    · have h3 : ¬ 0 < d := by simpa using h3
      have e1 : resizeA n d g.abs = (0, putA n { e.bl with data := e.bl.data.take (e.bl.data.length + d).toNat } g.abs) := by unfold resizeA; rw [ha]; simp only; rw [if_neg h2, if_neg h3]
      rw [e1] at hk20
      refine dr_some (h1.st.ldE he (k := .sl) e.sl rfl ?_)
      have hq : w64 ((e.bl.data.length : Int) + d) = (((e.bl.data.length : Int) + d).toNat : Int) := by rw [w64_in (by omega) (by omega)]; omega
      rw [hq]
      have hqle : ((e.bl.data.length : Int) + d).toNat ≤ e.bl.data.length := by omega
      generalize ((e.bl.data.length : Int) + d).toNat = q at hqle hk20
      refine ⟨0, q, q, rfl, rfl, rfl, Nat.zero_le _, Nat.le_refl _, by omega, dr_some ?_⟩
      have hv' : VecL e.ro EU (e.sl.cut 1 0 q q) (e.bl.data.take q) := hv.cut0 hqle
      refine h1.st.stE he (o := 0) (vs := [.sl (e.sl.cut 1 0 q q)]) (b' := { e.bl with data := e.bl.data.take q }) (sl' := e.sl.cut 1 0 q q) rfl hv' ⟨hok.lo, hok.hi, by simp; omega, fun x hx => hok.byte x (List.mem_of_mem_take hx)⟩ (by simp) fun w5 h5 hM5 => ?_
      have hn6 := h1.of h5 rfl rfl hM5 fun x _ hx => hx ▸ D_bb he
      exact hk20 _ ⟨_, hn6.cast (abs_put (g := g) (e := e) (sl' := e.sl.cut 1 0 q q) (ro' := e.ro) (b' := { e.bl with data := e.bl.data.take q }) he hn hA) rfl, rfl⟩
  · rintro w2 ⟨g2, h5, h6⟩
    refine unlock_ok h5 fun w7 h7 _ => ?_
    rw [← h6]; exact hK _ _ h7
end
end Go.Proofs.Ytjldecomhpngmaa
