/- The store's methods: Append, Publish, StopAt, Delete, Read, Size, Meter. -/
import Derived.Test.YtjldecomhpngmaaVC
import Derived.Test.YtjldecomhpngmaaSB
namespace Go.Proofs.Ytjldecomhpngmaa
open Go.Vw

theorem step64 {i : Nat} (h : i ≤ 1099511627776) : w64 ((i : Int) + 1) = ((i + 1 : Nat) : Int) := by rw [w64_in (by omega) (by omega)]; omega
theorem mod_drew (w : World) : Mod F0 w w.drew := Mod.drew F0 w
theorem EUcell {w : World} {b o : Nat} {x : Int} (h : ∀ j, j < EU.n → w.cell? ⟨b, o + j, none⟩ = (EU.f x)[j]?) : w.cell? ⟨b, o, none⟩ = some (LV.mk (.int .u8) x).toV := h 0 (by decide)
/-- same -/
theorem same_ok {a b : Sl} {la lb : List Int} {w : World} (ha : RdS w EU a la) (hb : RdS w EU b lb) (hn : la.length ≤ 1099511627776) (hnb : lb.length ≤ 1099511627776) {K : Bool → World → Prop} (hK : ∀ w', Mod F0 w w' → K (decide (la = lb)) w') : callK Try.prog 15 [.leaf (.sl a), .leaf (.sl b)] w (.one (.leaf .bool)) K := by
  refine go_winnowlaw5_same _ _ _ _ ?_
  refine ifK_intro (fun h => ?_) fun h => ?_
  · have : la ≠ lb := by
      rintro rfl
      rw [ha.len, hb.len] at h; simp at h
    have := hK w (Mod.refl _ _)
    rw [decide_eq_false ‹la ≠ lb›] at this; exact this
  have hl : la.length = lb.length := by
    rw [ha.len, hb.len] at h
    have : (la.length : Int) = lb.length := by simpa using h
    omega
  refine join0 (fun w' => Mod F0 w w' ∧ la = lb) ?_ fun w' hw => by have := hK w' hw.1; rw [decide_eq_true hw.2] at this; exact this
  intro k hk
  refine loop1 (k := .int .i64) (fun (i : Int) u => Mod F0 w u ∧ ∃ j : Nat, i = j ∧ j ≤ la.length ∧ la.take j = lb.take j) (fun i _ => (la.length - i).toNat) (x := 0) rfl ⟨Mod.refl _ _, 0, rfl, by omega, by simp⟩ ?_
  rintro i u ⟨hM, j, rfl, hj, he⟩
  refine ifK_intro (fun h => ?_) fun h => ?_
  · rw [ha.len] at h
    have hlt : j < la.length := dlt h
    have hM2 : Mod F0 w u.drew := mod0 hM (mod_drew u)
    refine ⟨F0, (ha.keep hM2 fun _ _ => id).ix rfl rfl (List.getElem?_eq_getElem hlt) fun b1 o1 _ hc1 => ?_⟩
    refine ldD_cell (k := .int .u8) la[j] id (EUcell hc1) ?_
    refine (hb.keep hM2 fun _ _ => id).ix rfl rfl (List.getElem?_eq_getElem (by omega)) fun b2 o2 _ hc2 => ?_
    refine ldD_cell (k := .int .u8) (lb[j]'(by omega)) id (EUcell hc2) ?_
    refine ifK_intro (fun hne => ?_) fun heq => ?_
    · have hne : la[j] ≠ lb[j]'(by omega) := by simpa using hne
      have : la ≠ lb := by rintro rfl; exact hne rfl
      have := hK _ hM2
      rw [decide_eq_false ‹la ≠ lb›] at this; exact this
    · have heq : la[j] = lb[j]'(by omega) := by simpa using heq
      refine ⟨⟨hM2, j + 1, step64 (by omega), by omega, ?_⟩, ?_⟩
      · rw [List.take_add_one, List.take_add_one, he, List.getElem?_eq_getElem hlt, List.getElem?_eq_getElem (by omega), heq]
      · rw [step64 (by omega)]; omega
  · rw [ha.len] at h
    have hlt : la.length ≤ j := dge h
    refine hk _ ⟨hM, ?_⟩
    rw [List.take_of_length_le hlt, List.take_of_length_le (by omega)] at he; exact he
/-- Clone -/
theorem clone_ok {w0 w : World} {m : List (Nat × List Value)} {s : Sl} {l : List Int} (hA : At w0 F0 m w) (hr : RdS w EU s l) (hl : l.length ≤ 1099511627776) {K : Sl → World → Prop}
    (hK : ∀ a ro w', At w0 F0 (m ++ ro) w' → VecL ro EU a l → Mod F0 w w' → K a w') : callK Try.prog 35 [.leaf (.sl s)] w (.one (.leaf .sl)) K := by
  refine go_slices_Clone_byte_byte _ _ _ ?_
  refine ifK_intro (fun h => ?_) fun h => ?_
  · have hp : s.p = none := by simpa using h
    have : l = [] := by
      rcases hr.rd with h | ⟨b, o, hb, _⟩
      · have := congrArg List.length h; rw [EU.cells_length] at this; exact List.eq_nil_of_length_eq_zero (by simpa [EU] using this)
      · rw [hp] at hb; cases hb
    subst this
    exact hK _ [] w (by simpa using hA) (VecL.nil EU) (Mod.refl _ _)
  · refine hA.alK fun b w1 _ hA1 hM1 => ?_
    refine appL (m := m) (ro := [(b, [])]) (l := ([] : List Int)) hA1 (E := EU) ⟨rfl, Nat.le_refl _, .inr ⟨b, [], rfl, rfl, by simp⟩⟩ (hr.keep hM1 fun _ _ => id) rfl rfl (by simp; omega) fun a ro w2 hA2 hv hM2 _ => ?_
    have hge : ∀ x, x < w.heap.size → ¬ Ks [(b, ([] : List Value))] x := by
      rintro x hx ⟨q, hq, rfl⟩
      simp at hq; subst hq; omega
    exact hK a ro w2 hA2 hv (hM1.trans hM2 (fun _ _ h => h) hge)
section
variable {w0 w : World} {m : List (Nat × List Value)} {g : SG}
/-- an entry of a store's plain reading is put in another's place -/
theorem abs_put {n : Str} {A B : List En} {e : En} {sl' : Sl} {ro' : List (Nat × List Value)} {b' : Bl} (he : g.ents = A ++ e :: B) (hn : e.name = n) (hA : ∀ x ∈ A, x.name ≠ n) : ({ g with ents := A ++ ⟨e.name, e.bb, sl', ro', b'⟩ :: B } : SG).abs = putA n b' g.abs := by
  unfold SG.abs
  rw [he, abs_mid, abs_mid, hn, putA_mid fun x hx => by obtain ⟨y, hy, rfl⟩ := List.mem_map.1 hx; exact hA y hy]
theorem Nx.of {w' : World} {g' : SG} {w2 : World} {a : Abs} {t : Int × Int × Int} {D : Nat → Prop} (h : Nx w0 m 1 g w a t g' w') {g2 : SG} (hst : StA w0 m 1 g2 w2) (hb : g2.bs = g'.bs) (hr : g2.r = g'.r) (hM : Mod D w' w2) (hD : ∀ x, x < w.heap.size → D x → g.D x) : Nx w0 m 1 g w g2.abs g2.mt g2 w2 :=
  ⟨hst, hb.trans h.bs, hr.trans h.r, modD h.mod hM hD, rfl, rfl⟩
theorem Nx.cast {s : Int} {a a' : Abs} {t t' : Int × Int × Int} {g' : SG} {w' : World} (h : Nx w0 m s g w a t g' w') (ha : a = a') (ht : t = t') : Nx w0 m s g w a' t' g' w' := by subst ha; subst ht; exact h
def appendA (n : Str) (d : List Int) (a : Abs) : Int × Abs := match writeA n a with
  | (c, none) => (c, a)
  | (_, some b) => if 268435456 < b.data.length + d.length then (57, a) else
    if b.stops = true ∧ b.stop < b.data.length + d.length then (55, putA n { b with data := b.data ++ d.take (b.stop - b.data.length).toNat, stopped := true } a) else (0, putA n { b with data := b.data ++ d } a)
theorem append_ok (h : StA w0 m 0 g w) (n : Str) {b : Sl} {d : List Int} (hd : ∀ w', At w0 F0 m w' → RdS w' EU b d) (hl : d.length ≤ 1099511627776) (hby : ∀ x ∈ d, 0 ≤ x ∧ x < 256) {K : Int → World → Prop} (hK : ∀ g' w', Nx w0 m 0 g w (appendA n d g.abs).2 g.mt g' w' → K (appendA n d g.abs).1 w') :
    callK Try.prog 12 [.leaf (.ptr (some (g.bs, 0))), .leaf (.str n), .leaf (.sl b)] w (.one (.leaf (.int .i64))) K := by
  refine go_store_Store_Append _ _ _ _ _ ?_
  refine ifK_f rfl (dr_some (lock_ok h fun w1 h1 _ => dr_some ?_))
  have hblen : b.len = d.length := (hd w h.side).len
  refine writable_ok h1.st n (fun c hc hc0 => ?_) fun A e B he hn hA ha ho hs => ?_
  · have e1 : appendA n d g.abs = (c, g.abs) := by unfold appendA; rw [hc]
    rw [e1] at hK
    exact ifK_t (by simpa using hc0) (unlock_ok h1 fun w4 h4 _ => hK _ _ h4)
  refine ifK_f rfl (dr_some (h1.st.ldE he (k := .sl) e.sl rfl ?_))
  have hok := h1.st.okOf he
  have hv := h1.st.vecOf he
  have hsl : e.sl.len = e.bl.data.length := hv.1
  have hk3 := hok.len
  have hsum : w64 ((e.sl.len : Int) + (b.len : Int)) = ((e.bl.data.length + d.length : Nat) : Int) := by rw [w64_in (by omega) (by omega)]; omega
  rw [hsum]
  refine ifK_intro (fun hbig => ?_) fun hbig => ?_
  · have hbig : 268435456 < e.bl.data.length + d.length := by simp only [decide_eq_true_eq] at hbig; omega
    have e1 : appendA n d g.abs = (57, g.abs) := by unfold appendA; rw [ha]; simp [hbig]
    rw [e1] at hK
    exact unlock_ok h1 fun w4 h4 _ => hK _ _ h4
  have hbig : ¬ 268435456 < e.bl.data.length + d.length := by simp only [decide_eq_false_iff_not] at hbig; omega
  have hD : ∀ x, x < w.heap.size → (x = e.bb ∨ Ks e.ro x) → g.D x := fun x _ hx => by
    rcases hx with rfl | hx
    · exact D_bb he
    · exact D_ro he hx
  refine join1 (fun c u => u = w1.drew ∧ (c = true ↔ e.bl.stops = true ∧ e.bl.stop < ((e.bl.data.length + d.length : Nat) : Int))) ?_ ?_
  · intro k hk
    refine ⟨F0, dr_some (h1.st.drew.ldDE he (k := .bool) e.bl.stops id rfl ?_)⟩
    refine ifK_intro (fun h2 => dr_some (h1.st.drew.ldDE he (k := .sl) e.sl id rfl (dr_some (h1.st.drew.ldDE he (k := .int .i64) e.bl.stop id rfl ?_)))) fun h2 => ?_
    · rw [hsum]
      exact hk _ _ ⟨rfl, by simp only [decide_eq_true_eq]; exact ⟨fun x => ⟨h2, x⟩, fun x => x.2⟩⟩
    · exact hk _ _ ⟨rfl, by simp [h2]⟩
  rintro c u ⟨rfl, hc⟩
  have hst1 := h1.st.drew
  refine ifK_intro (fun h2 => ?_) fun h2 => ?_
  · obtain ⟨hs1, hs2⟩ := hc.1 h2
    have e1 : appendA n d g.abs = (55, putA n { e.bl with data := e.bl.data ++ d.take (e.bl.stop - e.bl.data.length).toNat, stopped := true } g.abs) := by
      unfold appendA; rw [ha]; simp only [if_neg hbig]; rw [if_pos ⟨hs1, by omega⟩]
    rw [e1] at hK
    refine ⟨F0, dr_some (hst1.drew.ldDE he (k := .int .i64) e.bl.stop id rfl (dr_some (hst1.drew.ldDE he (k := .sl) e.sl id rfl ?_)))⟩
    have hst3 := hst1.drew.drew
    refine ⟨Ks e.ro, dr_some (hst3.ldDE he (k := .sl) e.sl (hst3.bbNe he) rfl ?_)⟩
    have hlo := hok.lo
    have hhi := hok.hi
    have hmx : mxI (w64 (e.bl.stop - (e.sl.len : Int))) 0 = ((e.bl.stop - e.bl.data.length).toNat : Int) := by
      rw [w64_in (by omega) (by omega)]; unfold mxI; split <;> omega
    rw [hmx]
    have hrd := hd _ hst3.side
    generalize hq : (e.bl.stop - e.bl.data.length).toNat = q at *
    have hqd : q ≤ d.length := by omega
    refine hrd.slx hqd 1 ?_
    have hrd2 : RdS w1.drew.drew.drew EU (b.cut 1 0 q b.cap) ((d.take q).drop 0) := RdS.cutR hrd (lo := 0) (hi := q) (mx := b.cap) (Nat.zero_le _) hqd (by have := hrd.has; have := hrd.len; omega)
    rw [List.drop_zero] at hrd2
    refine appL (hst3.focus he) hv hrd2 rfl rfl (by simp; omega) fun s' ro' w4 hA4 hv4 hM4 _ => ⟨hM4, dr_some ?_⟩
    have hby' : ∀ x ∈ e.bl.data ++ d.take q, 0 ≤ x ∧ x < 256 := fun x hx => by
      rcases List.mem_append.1 hx with hx | hx
      · exact hok.byte x hx
      · exact hby x (List.mem_of_mem_take hx)
    have hlen' : (e.bl.data ++ d.take q).length ≤ 268435456 := by simp; omega
    refine hst3.stA he hA4 hM4 (o := 0) (vs := [.sl s']) (b' := { e.bl with data := e.bl.data ++ d.take q }) (sl' := s') rfl hv4 ⟨hok.lo, hok.hi, hlen', hby'⟩ (by simp) fun w5 h5 hM5 => dr_some ?_
    refine h5.stE (e := ⟨e.name, e.bb, s', ro', { e.bl with data := e.bl.data ++ d.take q }⟩) (A := A) (B := B) rfl (o := 4) (vs := [.lit true]) (b' := { e.bl with data := e.bl.data ++ d.take q, stopped := true }) (sl' := s') rfl hv4 ⟨hok.lo, hok.hi, hlen', hby'⟩ (by simp) fun w6 h6 hM6 => ?_
    have hM36 : Mod (fun x => x = e.bb ∨ Ks e.ro x) w1 w6 := (mod0 (mod0 (mod_drew w1) (mod_drew _)) (mod_drew _)).trans (hM5.trans hM6 (fun _ _ h => h) fun _ _ h => .inl h) (fun _ _ h => h.elim) fun _ _ h => h
    have hn6 := h1.of h6 rfl rfl hM36 hD
    have ea := abs_put (g := g) (sl' := s') (ro' := ro') (b' := { e.bl with data := e.bl.data ++ d.take q, stopped := true }) he hn hA
    refine unlock_ok hn6 fun w7 h7 _ => hK _ _ (h7.cast ea rfl)
  · have hns : ¬ (e.bl.stops = true ∧ e.bl.stop < e.bl.data.length + d.length) := fun x => by rw [hc.2 ⟨x.1, by have := x.2; omega⟩] at h2; cases h2
    have e1 : appendA n d g.abs = (0, putA n { e.bl with data := e.bl.data ++ d } g.abs) := by
      unfold appendA; rw [ha]; simp only [if_neg hbig]; rw [if_neg hns]
    rw [e1] at hK
    refine dr_some (hst1.ldE he (k := .sl) e.sl rfl ?_)
    have hby' : ∀ x ∈ e.bl.data ++ d, 0 ≤ x ∧ x < 256 := fun x hx => by
      rcases List.mem_append.1 hx with hx | hx
      · exact hok.byte x hx
      · exact hby x hx
    have hlen' : (e.bl.data ++ d).length ≤ 268435456 := by simp; omega
    refine appL (hst1.focus he) hv (hd _ hst1.side) rfl rfl (by omega) fun s' ro' w4 hA4 hv4 hM4 _ => dr_some ?_
    refine hst1.stA he hA4 hM4 (o := 0) (vs := [.sl s']) (b' := { e.bl with data := e.bl.data ++ d }) (sl' := s') rfl hv4 ⟨hok.lo, hok.hi, hlen', hby'⟩ (by simp) fun w5 h5 hM5 => ?_
    have hM15 : Mod (fun x => x = e.bb ∨ Ks e.ro x) w1 w5 := (mod_drew w1).trans hM5 (fun _ _ h => h.elim) fun _ _ h => h
    have hn6 := h1.of h5 rfl rfl hM15 hD
    have ea := abs_put (g := g) (sl' := s') (ro' := ro') (b' := { e.bl with data := e.bl.data ++ d }) he hn hA
    refine unlock_ok hn6 fun w7 h7 _ => hK _ _ (h7.cast ea rfl)
def publishA (n : Str) (a : Abs) : Int × Abs := match writeA n a with
  | (c, none) => (c, a)
  | (_, some b) => if b.stops then (55, putA n { b with stopped := true } a) else (0, putA n { b with out := true } a)
theorem publish_ok (h : StA w0 m 0 g w) (n : Str) {K : Int → World → Prop} (hK : ∀ g' w', Nx w0 m 0 g w (publishA n g.abs).2 g.mt g' w' → K (publishA n g.abs).1 w') :
    callK Try.prog 13 [.leaf (.ptr (some (g.bs, 0))), .leaf (.str n)] w (.one (.leaf (.int .i64))) K := by
  refine go_store_Store_Publish _ _ _ _ ?_
  refine ifK_f rfl (dr_some (lock_ok h fun w1 h1 _ => dr_some ?_))
  refine writable_ok h1.st n (fun c hc hc0 => ?_) fun A e B he hn hA ha ho hs => ?_
  · have e1 : publishA n g.abs = (c, g.abs) := by unfold publishA; rw [hc]
    rw [e1] at hK
    exact ifK_t (by simpa using hc0) (unlock_ok h1 fun w4 h4 _ => hK _ _ h4)
  refine ifK_f rfl (dr_some (h1.st.ldE he (k := .bool) e.bl.stops rfl ?_))
  have hok := h1.st.okOf he
  have hv := h1.st.vecOf he
  have hD : ∀ x, x < w.heap.size → x = e.bb → g.D x := fun x _ hx => hx ▸ D_bb he
  refine ifK_intro (fun h2 => ?_) fun h2 => ?_
  · have e1 : publishA n g.abs = (55, putA n { e.bl with stopped := true } g.abs) := by unfold publishA; rw [ha]; simp [h2]
    rw [e1] at hK
    refine dr_some (h1.st.stE he (o := 4) (vs := [.lit true]) (b' := { e.bl with stopped := true }) (sl' := e.sl) rfl hv ⟨hok.lo, hok.hi, hok.len, hok.byte⟩ (by simp) fun w5 h5 hM5 => ?_)
    refine unlock_ok (h1.of h5 rfl rfl hM5 hD) fun w7 h7 _ => hK _ _ (h7.cast (abs_put (g := g) (sl' := e.sl) (ro' := e.ro) he hn hA) rfl)
  · have e1 : publishA n g.abs = (0, putA n { e.bl with out := true } g.abs) := by unfold publishA; rw [ha]; simp [h2]
    rw [e1] at hK
    refine dr_some (h1.st.stE he (o := 1) (vs := [.lit true]) (b' := { e.bl with out := true }) (sl' := e.sl) rfl hv ⟨hok.lo, hok.hi, hok.len, hok.byte⟩ (by simp) fun w5 h5 hM5 => ?_)
    refine unlock_ok (h1.of h5 rfl rfl hM5 hD) fun w7 h7 _ => hK _ _ (h7.cast (abs_put (g := g) (sl' := e.sl) (ro' := e.ro) he hn hA) rfl)
def stopA (n : Str) (k : Int) (a : Abs) : Int × Abs := match writeA n a with
  | (c, none) => (c, a)
  | (_, some b) => (0, putA n { b with stops := true, stop := mxI k 0 } a)
theorem stop_ok (h : StA w0 m 0 g w) (n : Str) (k : Int) (hk : k ≤ 9223372036854775807) {K : Int → World → Prop} (hK : ∀ g' w', Nx w0 m 0 g w (stopA n k g.abs).2 g.mt g' w' → K (stopA n k g.abs).1 w') :
    callK Try.prog 22 [.leaf (.ptr (some (g.bs, 0))), .leaf (.str n), .leaf (.int .i64 k)] w (.one (.leaf (.int .i64))) K := by
  refine go_store_Store_StopAt _ _ _ _ _ ?_
  refine ifK_f rfl (dr_some (lock_ok h fun w1 h1 _ => dr_some ?_))
  refine writable_ok h1.st n (fun c hc hc0 => ?_) fun A e B he hn hA ha ho hs => ?_
  · have e1 : stopA n k g.abs = (c, g.abs) := by unfold stopA; rw [hc]
    rw [e1] at hK
    exact ifK_t (by simpa using hc0) (unlock_ok h1 fun w4 h4 _ => hK _ _ h4)
  have hok := h1.st.okOf he
  have hv := h1.st.vecOf he
  have hD : ∀ x, x < w.heap.size → x = e.bb → g.D x := fun x _ hx => hx ▸ D_bb he
  have e1 : stopA n k g.abs = (0, putA n { e.bl with stops := true, stop := mxI k 0 } g.abs) := by unfold stopA; rw [ha]
  rw [e1] at hK
  refine ifK_f rfl (dr_some (h1.st.stE he (o := 2) (vs := [.lit true]) (b' := { e.bl with stops := true }) (sl' := e.sl) rfl hv ⟨hok.lo, hok.hi, hok.len, hok.byte⟩ (by simp) fun w5 h5 hM5 => dr_some ?_))
  refine h5.stE (e := ⟨e.name, e.bb, e.sl, e.ro, { e.bl with stops := true }⟩) (A := A) (B := B) rfl (o := 3) (vs := [.int .i64 (mxI k 0)]) (b' := { e.bl with stops := true, stop := mxI k 0 }) (sl' := e.sl) rfl hv ⟨by show 0 ≤ mxI k 0; unfold mxI; split <;> omega, by show mxI k 0 ≤ _; unfold mxI; split <;> omega, hok.len, hok.byte⟩ (by simp) fun w6 h6 hM6 => ?_
  refine unlock_ok (h1.of h6 rfl rfl (hM5.trans hM6 (fun _ _ h => h) fun _ _ h => h) hD) fun w7 h7 _ => hK _ _ (h7.cast (abs_put (g := g) (e := e) (sl' := e.sl) (ro' := e.ro) (b' := { e.bl with stops := true, stop := mxI k 0 }) he hn hA) rfl)
end
end Go.Proofs.Ytjldecomhpngmaa
