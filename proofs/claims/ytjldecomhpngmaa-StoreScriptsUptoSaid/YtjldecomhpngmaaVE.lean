/- The store's methods: Read, Size, Meter, Delete. -/
import Derived.Test.YtjldecomhpngmaaVD
namespace Go.Proofs.Ytjldecomhpngmaa
open Go.Vw

section
variable {w0 w : World} {m : List (Nat × List Value)} {s : Int} {g : SG}
theorem StA.beside (h : StA w0 m s g w) {ro : List (Nat × List Value)} {w' : World} (hA : At w0 F0 (((m ++ [g.hd s]) ++ owns g.ents) ++ ro) w') (hM : Mod F0 w w') : StA w0 (m ++ ro) s g w' := by
  refine ⟨hA.perm ?_, h.nm.keep hM id, h.old, h.vec⟩
  simp only [List.append_assoc]
  refine List.Perm.append_left _ ?_
  rw [← List.append_assoc [g.hd s]]
  exact List.perm_append_comm
theorem StA.less {m' : List (Nat × List Value)} (h : StA w0 m s g w) (hs : m'.Sublist m) : StA w0 m' s g w :=
  ⟨h.at_.sub ((hs.append (List.Sublist.refl _)).append (List.Sublist.refl _)), h.nm, h.old, h.vec⟩
theorem StA.permM {m' : List (Nat × List Value)} (h : StA w0 m s g w) (hs : m'.Perm m) : StA w0 m' s g w :=
  ⟨h.at_.perm ((hs.append_right _).append_right _), h.nm, h.old, h.vec⟩
/-- something beside the store changes, or is added -/
theorem StA.alS (h : StA w0 m s g w) {e : TypeId} {cs : List LV} {K : Nat → World → Prop} (hK : ∀ b w', b = w.heap.size → StA w0 (m ++ [(b, cs.map LV.toV)]) s g w' → Mod F0 w w' → K b w') : Go.Vw.al w e cs K :=
  h.at_.alK fun b w' hb hA hM => hK b w' hb (h.beside hA hM) hM
theorem StA.stS {b : Nat} {c : List Value} (h : StA w0 (m ++ [(b, c)]) s g w) {o : Nat} {vs : List LV} (hl : o + vs.length ≤ c.length) {K : World → Prop} (hK : ∀ w', StA w0 (m ++ [(b, spl c o (vs.map LV.toV))]) s g w' → Mod (fun k => k = b) w w' → K w') : st w b o vs K := by
  have hb : Blk w b c := h.at_.own (b, c) (by simp)
  refine ⟨fun i hi => ⟨⟨c[o + i]'(by omega), by rw [hb.cell, List.getElem?_eq_getElem]⟩, hb.frz _⟩, ?_⟩
  have hp : ∀ c : List Value, (((m ++ ([g.hd s] ++ owns g.ents)) ++ [(b, c)])).Perm (((m ++ [(b, c)]) ++ [g.hd s]) ++ owns g.ents) := fun c => by
    simp only [List.append_assoc]
    refine List.Perm.append_left _ ?_
    rw [← List.append_assoc [g.hd s], ← List.append_assoc [(b, c)]]
    exact List.perm_append_comm
  have h1 := h.at_.perm (hp c)
  have h2 := At.setLast h1 o (vs.map LV.toV)
  refine hK _ ⟨h2.perm (hp _).symm, h.nm.keep (Mod.setCells w b o _) fun e => h.nm.far (e ▸ hb), h.old, h.vec⟩ (Mod.setCells ..)
theorem StA.ldS {b : Nat} {c : List Value} (h : StA w0 (m ++ [(b, c)]) s g w) {k : Kd} {o : Nat} (x : Den k) {K : Den k → Prop} (hx : c[o]? = some (LV.mk k x).toV) (hK : K x) : Go.Vw.ld w k b o K :=
  ⟨x, by rw [(h.at_.own (b, c) (by simp)).cell]; exact hx, hK⟩
theorem StA.ldDS {b : Nat} {c : List Value} (h : StA w0 (m ++ [(b, c)]) s g w) {D : Nat → Prop} {k : Kd} {o : Nat} (x : Den k) {K : Den k → Prop} (hD : ¬ D b) (hx : c[o]? = some (LV.mk k x).toV) (hK : K x) : Go.Vw.ldD D w k b o K :=
  ⟨x, hD, by rw [(h.at_.own (b, c) (by simp)).cell]; exact hx, hK⟩
theorem StA.neS {p : Nat × List Value} (h : StA w0 m s g w) (hp : p ∈ m) : p.1 ≠ g.bs := by
  obtain ⟨i, hi⟩ := List.mem_iff_getElem?.1 hp
  have hlt : i < m.length := (List.getElem?_eq_some_iff.1 hi).1
  exact h.at_.ne (i := i) (j := m.length) (b := p.1) (c := p.2) (b' := g.bs) (c' := (g.hd s).2) (by rw [List.append_assoc, List.getElem?_append_left hlt, hi]) (by simp; rfl) (by omega)
theorem StA.notD {p : Nat × List Value} (h : StA w0 m s g w) (hp : p ∈ m) : ¬ g.D p.1 := by
  rintro (e | e | e)
  · exact h.neS hp e
  · exact h.far (p := p) (by simp [hp]) e
  · have h1 : At w0 F0 ((m ++ [g.hd s]) ++ owns g.ents) w := h.at_
    exact h1.notKs (p := p) (by simp [hp]) e
theorem unlockS (h : StA w0 m 1 g w) {K : World → Prop} (hK : ∀ w', StA w0 m 0 g w' → Mod (fun b => b = g.bs) w w' → K w') : callsK Try.prog [(30, [.leaf (.ptr (some (g.bs, 0)))])] w K :=
  unlock_raw (by rw [h.hdBlk.cell]; rfl) (h.hdBlk.frz _) (hK _ (h.setHd (g' := g) (s' := 0) (o := 0) (vs := [.int .i32 0]) rfl rfl rfl rfl) (Mod.setCells ..))
/-- Meter -/
theorem meter_ok (h : StA w0 m 0 g w) {K : Int → Int → Int → World → Prop} (hK : ∀ w', StA w0 m 0 g w' → Mod (fun b => b = g.bs) w w' → K g.m1 g.m2 g.m3 w') :
    callK Try.prog 16 [.leaf (.ptr (some (g.bs, 0)))] w (.one (.agg [.int .i64, .int .i64, .int .i64])) K := by
  refine go_store_Store_Meter _ _ _ ?_
  refine h.alS fun b w1 hb h1 hM1 => ?_
  refine ifK_f rfl (dr_some (lock_ok h1 fun w2 h2 hM2 => dr_some (dr_some ?_)))
  refine h2.st.ldHd (k := .int .i64) g.m1 rfl (h2.st.ldHd (k := .int .i64) g.m2 rfl (h2.st.ldHd (k := .int .i64) g.m3 rfl ?_))
  refine h2.st.stS (by simp) fun w3 h3 hM3 => unlockS h3 fun w4 h4 hM4 => ?_
  refine h4.ldS (k := .int .i64) g.m1 rfl (h4.ldS (k := .int .i64) g.m2 rfl (h4.ldS (k := .int .i64) g.m3 rfl ?_))
  refine hK w4 (h4.less (List.sublist_append_left _ _)) ?_
  have h12 : Mod (fun b => b = g.bs) w w2 := hM1.trans hM2 (fun _ _ h => h.elim) fun _ _ h => h
  exact (h12.trans hM3 (fun _ _ h => h) fun x hx e => absurd hx (by omega)).trans hM4 (fun _ _ h => h) fun _ _ h => h
/-- Size -/
def sizeA (n : Str) (a : Abs) : Int × Int := match readA n a with
  | (c, none) => (0, c)
  | (_, some b) => (b.data.length, 0)
theorem size_ok (h : StA w0 m 0 g w) (n : Str) {K : Int → Int → World → Prop} (hK : ∀ g' w', Nx w0 m 0 g w g.abs g.mt g' w' → K (sizeA n g.abs).1 (sizeA n g.abs).2 w') :
    callK Try.prog 20 [.leaf (.ptr (some (g.bs, 0))), .leaf (.str n)] w (.tup [.leaf (.int .i64), .leaf (.int .i64)]) K := by
  refine go_store_Store_Size _ _ _ _ ?_
  refine ifK_f rfl (dr_some (lock_ok h fun w1 h1 _ => dr_some ?_))
  refine readable_ok h1.st n (fun c hc hc0 => ?_) fun A e B he hn hA ha ho => ?_
  · have e1 : sizeA n g.abs = (0, c) := by unfold sizeA; rw [hc]
    rw [e1] at hK
    exact ifK_t (by simpa using hc0) (unlock_ok h1 fun w4 h4 _ => hK _ _ h4)
  · have e1 : sizeA n g.abs = ((e.bl.data.length : Int), 0) := by unfold sizeA; rw [ha]
    rw [e1] at hK
    refine ifK_f rfl (dr_some (h1.st.ldE he (k := .sl) e.sl rfl (unlock_ok h1 fun w4 h4 _ => ?_)))
    rw [(h1.st.vecOf he).1]
    exact hK _ _ h4
/-- Read -/
def readS (n : Str) (at_ k : Int) (a : Abs) (t : Int × Int × Int) : Int × List Int × (Int × Int × Int) :=
  if goodN n = false then (50, [], t) else if k < 0 then (3, [], t) else match readA n a with
  | (c, none) => (c, [], t)
  | (_, some b) => if at_ < 0 ∨ (b.data.length : Int) < at_ then (56, [], t) else
    (0, (b.data.drop at_.toNat).take k.toNat, (w64 (t.1 + 1), w64 (t.2.1 + ((b.data.drop at_.toNat).take k.toNat).length), mxI t.2.2 ((b.data.drop at_.toNat).take k.toNat).length))
theorem Nx.side0 {a : Abs} {t : Int × Int × Int} {g' : SG} {w' : World} (h : Nx w0 m s g w a t g' w') : Nx w0 (m ++ []) s g w a t g' w' := by rw [List.append_nil]; exact h
theorem read_ok (h : StA w0 m 0 g w) (n : Str) (at_ k : Int) (hat : at_ ≤ 9223372036854775807) {K : Sl → Int → World → Prop}
    (hK : ∀ sl ro g' w', Nx w0 (m ++ ro) 0 g w g.abs (readS n at_ k g.abs g.mt).2.2 g' w' → VecL ro EU sl (readS n at_ k g.abs g.mt).2.1 → K sl (readS n at_ k g.abs g.mt).1 w') :
    callK Try.prog 14 [.leaf (.ptr (some (g.bs, 0))), .leaf (.str n), .leaf (.int .i64 at_), .leaf (.int .i64 k)] w (.tup [.leaf .sl, .leaf (.int .i64)]) K := by
  refine go_store_Store_Read _ _ _ _ _ _ ?_
  refine ifK_f rfl (dr_some (lock_ok h fun w1 h1 _ => dr_some ?_))
  refine goodName_ok n ?_
  refine ifK_intro (fun hb => ?_) fun hb => ?_
  · have e1 : readS n at_ k g.abs g.mt = (50, [], g.mt) := by unfold readS; rw [if_pos (by simpa using hb)]
    rw [e1] at hK
    exact unlock_ok h1 fun w4 h4 _ => hK _ [] _ _ h4.side0 (VecL.nil EU)
  have hg : ¬ goodN n = false := by simpa using hb
  refine ifK_intro (fun hk => ?_) fun hk => ?_
  · have hk : k < 0 := by simpa using hk
    have e1 : readS n at_ k g.abs g.mt = (3, [], g.mt) := by unfold readS; rw [if_neg hg, if_pos hk]
    rw [e1] at hK
    exact unlock_ok h1 fun w4 h4 _ => hK _ [] _ _ h4.side0 (VecL.nil EU)
  have hk : ¬ k < 0 := by simpa using hk
  refine readable_ok h1.st n (fun c hc hc0 => ?_) fun A e B he hn hA ha ho => ?_
  · have e1 : readS n at_ k g.abs g.mt = (c, [], g.mt) := by unfold readS; rw [if_neg hg, if_neg hk, hc]
    rw [e1] at hK
    exact ifK_t (by simpa using hc0) (unlock_ok h1 fun w4 h4 _ => hK _ [] _ _ h4.side0 (VecL.nil EU))
  refine ifK_f rfl ?_
  have hv := h1.st.vecOf he
  have hsl : e.sl.len = e.bl.data.length := hv.1
  have hcap := hv.2.1
  have hk3 := (h1.st.okOf he).len
  refine join1 (fun c u => u = w1 ∧ (c = true ↔ at_ < 0 ∨ (e.bl.data.length : Int) < at_)) ?_ ?_
  · intro k2 hk2
    refine ifK_intro (fun h2 => hk2 _ _ ⟨rfl, ?_⟩) fun h2 => dr_some (h1.st.ldE he (k := .sl) e.sl rfl (hk2 _ _ ⟨rfl, ?_⟩))
    · have h2 : at_ < 0 := by simpa using h2
      exact ⟨fun _ => .inl h2, fun _ => rfl⟩
    · have h2 : ¬ at_ < 0 := by simpa using h2
      rw [decide_eq_true_eq, hsl]; omega
  rintro c u ⟨rfl, hc⟩
  refine ifK_intro (fun h2 => ?_) fun h2 => ?_
  · have e1 : readS n at_ k g.abs g.mt = (56, [], g.mt) := by unfold readS; rw [if_neg hg, if_neg hk, ha]; simp only; rw [if_pos (hc.1 h2)]
    rw [e1] at hK
    exact unlock_ok h1 fun w4 h4 _ => hK _ [] _ _ h4.side0 (VecL.nil EU)
  have h2 : ¬ (at_ < 0 ∨ (e.bl.data.length : Int) < at_) := fun x => by rw [hc.2 x] at h2; cases h2
  have e1 : readS n at_ k g.abs g.mt = (0, (e.bl.data.drop at_.toNat).take k.toNat, (w64 (g.m1 + 1), w64 (g.m2 + ((e.bl.data.drop at_.toNat).take k.toNat).length), mxI g.m3 ((e.bl.data.drop at_.toNat).take k.toNat).length)) := by
    unfold readS; rw [if_neg hg, if_neg hk, ha]; simp only; rw [if_neg h2]; rfl
  rw [e1] at hK
  generalize hq : at_.toNat = q at *
  have hqa : (q : Int) = at_ := by omega
  have hqd : q ≤ e.bl.data.length := by omega
  refine dr_some (h1.st.ldE he (k := .sl) e.sl rfl ⟨q, e.sl.len, e.sl.cap, hqa, rfl, rfl, by omega, hcap, Nat.le_refl _, ?_⟩)
  have hlen2 : (e.sl.cut 1 q e.sl.len e.sl.cap).len = e.bl.data.length - q := by simp [Sl.cut, hsl]
  have hcap2 : (e.sl.cut 1 q e.sl.len e.sl.cap).cap = e.sl.cap - q := by simp [Sl.cut]
  generalize hnn : ((e.bl.data.drop q).take k.toNat).length = nn at *
  have hnn' : nn = min k.toNat (e.bl.data.length - q) := by rw [← hnn]; simp
  have hmn : mnI k ((e.sl.cut 1 q e.sl.len e.sl.cap).len : Int) = (nn : Int) := by rw [hlen2, hnn']; unfold mnI; split <;> omega
  simp only [hmn]
  refine dr_some (h1.st.ldHd (k := .int .i64) g.m1 rfl (dr_some ?_))
  refine h1.st.stHd (g' := { g with m1 := w64 (g.m1 + 1) }) (s' := 1) rfl rfl rfl rfl (by simp) fun w2 hs2 hM2 => dr_some (hs2.ldHd (k := .int .i64) g.m2 rfl (dr_some ?_))
  refine hs2.stHd (g' := { g with m1 := w64 (g.m1 + 1), m2 := w64 (g.m2 + nn) }) (s' := 1) rfl rfl rfl rfl (by simp) fun w3 hs3 hM3 => dr_some (hs3.ldHd (k := .int .i64) g.m3 rfl (dr_some ?_))
  refine hs3.stHd (g' := { g with m1 := w64 (g.m1 + 1), m2 := w64 (g.m2 + nn), m3 := mxI g.m3 nn }) (s' := 1) rfl rfl rfl rfl (by simp) fun w4 hs4 hM4 => ?_
  have hM14 : Mod (fun b => b = g.bs) u w4 := (hM2.trans hM3 (fun _ _ h => h) fun _ _ h => h).trans hM4 (fun _ _ h => h) fun _ _ h => h
  have hnx := h1.of hs4 rfl rfl hM14 fun x _ e => e ▸ D_bs g
  have hr4 : RdS w4 EU e.sl e.bl.data := hs4.rdOf (A := A) (B := B) he
  have hr5 : RdS w4 EU (e.sl.cut 1 q e.sl.len e.sl.cap) ((e.bl.data.take e.sl.len).drop q) := RdS.cutR hr4 (by omega) (by omega) (by omega)
  have hr6 : RdS w4 EU ((e.sl.cut 1 q e.sl.len e.sl.cap).cut 1 0 nn nn) ((((e.bl.data.take e.sl.len).drop q).take nn).drop 0) := RdS.cutR hr5 (Nat.zero_le _) (by simp; omega) (Nat.le_refl _)
  have hl6 : ((((e.bl.data.take e.sl.len).drop q).take nn).drop 0) = (e.bl.data.drop q).take k.toNat := by
    rw [List.drop_zero, hsl, List.take_length, ← hnn, List.length_take]; exact List.take_eq_take_min.symm
  rw [hl6] at hr6
  refine ⟨0, nn, nn, rfl, rfl, rfl, Nat.zero_le _, Nat.le_refl _, by rw [hcap2]; omega, ?_⟩
  refine clone_ok hs4.at_ hr6 (by rw [hnn]; omega) fun sl ro w5 hA5 hv5 hM5 => ?_
  have hs5 := hs4.beside hA5 hM5
  have hn5 : Nx w0 (m ++ ro) 1 g w _ _ _ w5 := ⟨hs5, rfl, rfl, modD hnx.mod hM5 fun _ _ h => h.elim, rfl, rfl⟩
  exact unlock_ok hn5 fun w6 h6 _ => hK sl ro _ _ h6 hv5
/-- Delete -/
theorem fnd_mid {n : Str} {b : Nat} {B : List (Str × Nat)} : ∀ {A : List (Str × Nat)} {i : Nat}, (∀ x ∈ A, x.1 ≠ n) → fnd n (A ++ (n, b) :: B) i = some (i + A.length, b)
  | [], i, _ => by simp [fnd]
  | x :: A, i, h => by
    have h1 := h x (by simp)
    rw [List.cons_append, fnd, if_neg (Ne.symm h1), fnd_mid fun y hy => h y (List.mem_cons_of_mem _ hy)]
    simp; omega
def deleteA (n : Str) (a : Abs) : Int × Abs := match askA n a with
  | (c, none) => (c, a)
  | (_, some _) => (0, delA n a)
theorem delete_ok (h : StA w0 m 0 g w) (n : Str) {K : Int → World → Prop} (hK : ∀ g' w', Nx w0 m 0 g w (deleteA n g.abs).2 g.mt g' w' → K (deleteA n g.abs).1 w') :
    callK Try.prog 46 [.leaf (.ptr (some (g.bs, 0))), .leaf (.str n)] w (.one (.leaf (.int .i64))) K := by
  refine go_store_Store_Delete _ _ _ _ ?_
  refine ifK_f rfl (dr_some (lock_ok h fun w1 h1 _ => dr_some ?_))
  refine find_ok h1.st n (fun c hc hc2 hf => ?_) fun A e B he hn hA ha => ?_
  · have e1 : deleteA n g.abs = (c, g.abs) := by unfold deleteA; rw [hc]
    rw [e1] at hK
    exact ifK_t (by simpa using askA_c hc) (unlock_ok h1 fun w4 h4 _ => hK _ _ h4)
  have e1 : deleteA n g.abs = (0, delA n g.abs) := by unfold deleteA; rw [ha]
  rw [e1] at hK
  refine ifK_f rfl (dr_some (h1.st.ldHd (k := .map) (some g.r) rfl ?_))
  have hnm : g.names = (A.map fun e => (e.name, e.bb)) ++ (n, e.bb) :: (B.map fun e => (e.name, e.bb)) := by unfold SG.names; rw [he]; simp [hn]
  have hA' : ∀ x ∈ (A.map fun e => (e.name, e.bb)), x.1 ≠ n := fun x hx => by obtain ⟨y, hy, rfl⟩ := List.mem_map.1 hx; exact hA y hy
  have h2 := h1.st.nm
  rw [hnm] at h2
  refine delete_names h2 (by rw [fnd_mid hA']; simp) fun w2 hN hM2 => ?_
  have hst : StA w0 m 1 { g with ents := A ++ B } w2 := by
    refine ⟨?_, ?_, h1.st.old, fun x hx => h1.st.vec x ?_⟩
    · have h3 : At w0 F0 ((m ++ [g.hd 1]) ++ owns (A ++ B)) w1 := h1.st.at_.sub (by
        rw [he, owns_append, owns_append]
        refine List.Sublist.append (List.Sublist.refl _) (List.Sublist.append (List.Sublist.refl _) ?_)
        exact List.sublist_append_right _ _)
      refine h3.keep hM2 (fun x hx e => ?_) fun p hp e => ?_
      · subst e; exact absurd h1.st.old (by omega)
      · exact h1.st.nm.far (e ▸ h3.own p hp)
    · have : ({ g with ents := A ++ B } : SG).names = (A.map fun e => (e.name, e.bb)) ++ (B.map fun e => (e.name, e.bb)) := by unfold SG.names; simp
      rw [this]; exact hN
    · rw [he]
      rcases List.mem_append.1 hx with hx | hx
      · exact List.mem_append_left _ hx
      · exact List.mem_append_right _ (List.mem_cons_of_mem _ hx)
  have ea : ({ g with ents := A ++ B } : SG).abs = delA n g.abs := by
    unfold SG.abs
    rw [he, abs_mid, hn, delA_mid (fun x hx => by obtain ⟨y, hy, rfl⟩ := List.mem_map.1 hx; exact hA y hy)]
    simp
  exact unlock_ok (h1.of hst rfl rfl hM2 fun x _ e => e ▸ D_r g) fun w4 h4 _ => hK _ _ (h4.cast ea rfl)
end
end Go.Proofs.Ytjldecomhpngmaa
