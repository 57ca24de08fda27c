/- Flip: bits of a blob are turned. -/
import Derived.Test.YtjldecomhpngmaaVE
import Derived.Test.YtjldecomhpngmaaVJ
namespace Go.Proofs.Ytjldecomhpngmaa
open Go.Vw

section
variable {w0 w : World} {m : List (Nat × List Value)} {s : Int} {g : SG}
/-- a byte of a blob is written -/
theorem StA.setB (h : StA w0 m s g w) {A B : List En} {e : En} (he : g.ents = A ++ e :: B) {i : Nat} (hi : i < e.bl.data.length) {y : Int} (hy : 0 ≤ y ∧ y < 256) {b o : Nat} (hp : e.sl.p = some (b, o)) {K : World → Prop}
    (hK : ∀ ro' w', StA w0 m s { g with ents := A ++ ⟨e.name, e.bb, e.sl, ro', { e.bl with data := e.bl.data.set i y }⟩ :: B } w' → Mod (Ks e.ro) w w' → (∀ x, Ks ro' x → Ks e.ro x) → K w') : st w b (o + i * 1) [.int .u8 y] K := by
  have hv := h.vecOf he
  have hok := h.okOf he
  rcases hv.2.2 with ⟨_, h2, _⟩ | ⟨b', rest, hro, hp', hc⟩
  · rw [h2] at hp; cases hp
  rw [hp'] at hp
  simp only [Option.some.injEq, Prod.mk.injEq] at hp
  obtain ⟨rfl, rfl⟩ := hp
  have hx : e.bl.data[i]? = some e.bl.data[i] := List.getElem?_eq_getElem hi
  have hset : spl (EU.cells e.bl.data ++ rest) (i * EU.n + 0) [LV.toV (.int .u8 y)] = EU.cells (e.bl.data.set i y) ++ rest := EU.cells_set e.bl.data i 0 [LV.toV (.int .u8 y)] e.bl.data[i] y rest hx (Nat.le_refl _) rfl
  have hset' : spl (EU.cells e.bl.data ++ rest) (0 + i * 1) [LV.toV (.int .u8 y)] = EU.cells (e.bl.data.set i y) ++ rest := by rw [← hset]; congr 1; simp [EU]
  have hA := h.focus he
  rw [hro] at hA
  have hb : Blk w b' (EU.cells e.bl.data ++ rest) := hA.own (b', _) (by simp)
  have hA2 := At.setLast hA (0 + i * 1) [LV.toV (.int .u8 y)]
  rw [hset'] at hA2
  have hlt : 0 + i * 1 < (EU.cells e.bl.data ++ rest).length := by
    have : (EU.cells e.bl.data).length = e.bl.data.length := by rw [EU.cells_length]; simp [EU]
    rw [List.length_append]; omega
  have hM : Mod (Ks e.ro) w (World.setCells w b' (0 + i * 1) [LV.toV (.int .u8 y)]) := (Mod.setCells ..).mono fun x _ hx => ⟨(b', EU.cells e.bl.data ++ rest), by rw [hro]; exact List.mem_singleton.2 rfl, hx.symm⟩
  refine ⟨fun j hj => ?_, ?_⟩
  · have : j = 0 := by simpa using hj
    subst this
    exact ⟨⟨(EU.cells e.bl.data ++ rest)[0 + i * 1], by rw [hb.cell, Nat.add_zero, List.getElem?_eq_getElem hlt]⟩, hb.frz _⟩
  · refine hK [(b', EU.cells (e.bl.data.set i y) ++ rest)] _ (h.unfocus he hA2 ⟨by simp [hv.1], hv.2.1, .inr ⟨b', rest, rfl, hp', ?_⟩⟩ ⟨hok.lo, hok.hi, by simp; exact hok.len, fun x hx => ?_⟩ hM (h.roR he)) hM ?_
    · rw [List.length_append, EU.cells_length] at hc ⊢; simpa using hc
    · rcases List.mem_or_eq_of_mem_set hx with hx | hx
      · exact hok.byte x hx
      · rw [hx]; exact hy
    · rintro x ⟨q, hq, rfl⟩
      simp at hq; subst hq
      exact ⟨(b', EU.cells e.bl.data ++ rest), by rw [hro]; exact List.mem_singleton.2 rfl, rfl⟩
def flipA (n : Str) (bit mask : Int) (a : Abs) : Int × Abs := match askA n a with
  | (c, none) => (c, a)
  | (_, some b) => if bit < 0 ∨ 8 * (b.data.length : Int) ≤ bit then (56, a) else (0, putA n { b with data := flips bit.toNat mask 32 b.data } a)
theorem flip_ok (h : StA w0 m 0 g w) (n : Str) (bit mask : Int) (hm0 : 0 ≤ mask) (hm1 : mask < 4294967296) {K : Int → World → Prop} (hK : ∀ g' w', Nx w0 m 0 g w (flipA n bit mask g.abs).2 g.mt g' w' → K (flipA n bit mask g.abs).1 w') :
    callK Try.prog 18 [.leaf (.ptr (some (g.bs, 0))), .leaf (.str n), .leaf (.int .i64 bit), .leaf (.int .u32 mask)] w (.one (.leaf (.int .i64))) K := by
  refine go_store_Store_Flip _ _ _ _ _ _ ?_
  refine ifK_f rfl (dr_some (lock_ok h fun w1 h1 _ => dr_some ?_))
  refine find_ok h1.st n (fun c hc hc2 _ => ?_) fun A e B he hn hA ha => ?_
  · have e1 : flipA n bit mask g.abs = (c, g.abs) := by unfold flipA; rw [hc]
    rw [e1] at hK
    exact ifK_t (by simpa using askA_c hc) (unlock_ok h1 fun w4 h4 _ => hK _ _ h4)
  refine ifK_f rfl (dr_some (h1.st.ldE he (k := .sl) e.sl rfl ?_))
  have hok := h1.st.okOf he
  have hsl : e.sl.len = e.bl.data.length := (h1.st.vecOf he).1
  have hk3 := hok.len
  rw [hsl]
  have h8 : w64 (8 * (e.bl.data.length : Int)) = 8 * (e.bl.data.length : Int) := by rw [w64_in (by omega) (by omega)]
  rw [h8]
  refine join1 (fun c u => u = w1 ∧ (c = true ↔ bit < 0 ∨ 8 * (e.bl.data.length : Int) ≤ bit)) ?_ ?_
  · intro k2 hk2
    refine ifK_intro (fun h2 => hk2 _ _ ⟨rfl, ?_⟩) fun h2 => hk2 _ _ ⟨rfl, ?_⟩
    · have h2 : bit < 0 := by simpa using h2
      exact ⟨fun _ => .inl h2, fun _ => rfl⟩
    · have h2 : ¬ bit < 0 := by simpa using h2
      rw [decide_eq_true_eq]; omega
  rintro c u ⟨rfl, hc⟩
  refine ifK_intro (fun h2 => ?_) fun h2 => ?_
  · have e1 : flipA n bit mask g.abs = (56, g.abs) := by unfold flipA; rw [ha]; simp only; rw [if_pos (hc.1 h2)]
    rw [e1] at hK
    exact unlock_ok h1 fun w4 h4 _ => hK _ _ h4
  have h2 : ¬ (bit < 0 ∨ 8 * (e.bl.data.length : Int) ≤ bit) := fun x => by rw [hc.2 x] at h2; cases h2
  have e1 : flipA n bit mask g.abs = (0, putA n { e.bl with data := flips bit.toNat mask 32 e.bl.data } g.abs) := by unfold flipA; rw [ha]; simp only; rw [if_neg h2]
  rw [e1] at hK
  have hbit : bit = ((bit.toNat : Nat) : Int) := by omega
  generalize bit.toNat = q at hbit hK e1
  subst hbit
  have hD : ∀ x, x < w.heap.size → Ks e.ro x → g.D x := fun x _ hx => D_ro he hx
  let I : Nat → World → Prop := fun k v => ∃ ro', StA w0 m 1 { g with ents := A ++ ⟨e.name, e.bb, e.sl, ro', { e.bl with data := flips q mask k e.bl.data }⟩ :: B } v ∧ Mod (Ks e.ro) u v ∧ (∀ x, Ks ro' x → Ks e.ro x)
  refine join0 (fun v => I 32 v) ?_ ?_
  · intro k21 hk21
    refine loop1 (k := .int .i64) (fun (i : Int) v => ∃ k : Nat, i = k ∧ k ≤ 32 ∧ I k v) (fun i _ => (32 - i).toNat) (x := 0) rfl
      ⟨0, rfl, by omega, e.ro, by have := h1.st; rwa [show g = { g with ents := A ++ e :: B } by rw [← he]] at this, Mod.refl _ _, fun _ h => h⟩ ?_
    rintro i v ⟨k, rfl, hk, hI⟩
    refine ifK_intro (fun hlt => ?_) fun hge => ?_
    · have hlt : k < 32 := by have hlt : (k : Int) < 32 := of_decide_eq_true hlt; omega
      have hqk : w64 ((q : Int) + (k : Int)) = ((q + k : Nat) : Int) := by rw [w64_in (by omega) (by omega)]; omega
      have hmk : bitI .and .u32 (shrI .u32 mask (k : Int)) 1 = b01 (tb mask k) := by
        have hM : mask = ((mask.toNat : Nat) : Int) := by omega
        have := bit_and (k := .u32) rfl (by decide) (n := mask.toNat) (j := k) (by show mask.toNat < 2 ^ 32; omega)
        rw [← hM] at this
        exact this
      have hb01 : ∀ b : Bool, (b01 b == 1) = b := fun b => by cases b <;> rfl
      rw [hqk, hmk, hb01]
      refine join1 (fun c v' => v' = v ∧ (c = true ↔ tb mask k = true ∧ q + k < 8 * e.bl.data.length)) ?_ ?_
      · intro k25 hk25
        refine ⟨Int.natCast_nonneg k, ifK_intro (fun h3 => hk25 _ _ ⟨rfl, ?_⟩) fun h3 => hk25 _ _ ⟨rfl, ?_⟩⟩
        · rw [decide_eq_true_eq]
          refine ⟨fun h => ⟨h3, ?_⟩, fun h => ?_⟩
          · have h : ((q + k : Nat) : Int) < 8 * (e.bl.data.length : Int) := h
            omega
          · show ((q + k : Nat) : Int) < 8 * (e.bl.data.length : Int)
            omega
        · rw [h3]; simp
      rintro c v' ⟨rfl, hc2⟩
      have hw1 : w64 ((k : Int) + 1) = ((k + 1 : Nat) : Int) := step64 (by omega)
      refine join0 (fun v2 => I (k + 1) v2) ?_ (fun v2 hv2 => ⟨⟨k + 1, hw1, by omega, hv2⟩, by rw [hw1]; omega⟩)
      intro k28 hk28
      obtain ⟨ro', hs, hM, hro⟩ := hI
      refine ifK_intro (fun h3 => ?_) fun h3 => ?_
      · obtain ⟨h4, h5⟩ := hc2.1 h3
        refine ⟨F0, dr_some ?_⟩
        have hs' := hs.drew
        let ek : En := ⟨e.name, e.bb, e.sl, ro', { e.bl with data := flips q mask k e.bl.data }⟩
        have hek : ({ g with ents := A ++ ek :: B } : SG).ents = A ++ ek :: B := rfl
        refine hs'.ldDE (e := ek) hek (k := .sl) e.sl id rfl ?_
        have hdv : ((((q + k : Nat) : Int)).tdiv 8) = (((q + k) / 8 : Nat) : Int) := rfl
        have hmd : ((((q + k : Nat) : Int)).tmod 8) = (((q + k) % 8 : Nat) : Int) := rfl
        have hdw : w64 (((q + k) / 8 : Nat) : Int) = (((q + k) / 8 : Nat) : Int) := w64_in (by omega) (by omega)
        rw [hdv, hmd, hdw]
        have hfl := flips_length q mask k e.bl.data
        have hit : (q + k) / 8 < (flips q mask k e.bl.data).length := by rw [hfl]; omega
        have hget : (flips q mask k e.bl.data)[(q + k) / 8]? = some (flips q mask k e.bl.data)[(q + k) / 8] := List.getElem?_eq_getElem hit
        have hrd := hs'.rdOf (e := ek) hek
        obtain ⟨b, o, hp, hlt2, hcell⟩ := hrd.at hget
        have hcap := hrd.has
        have hlt3 : (q + k) / 8 < e.sl.len := hlt2
        have hcap3 : e.sl.len ≤ e.sl.cap := hcap
        have hby := (hs'.okOf (e := ek) hek).byte _ (List.getElem_mem hit)
        refine ix_some hp (by omega) (by omega) ?_ hcap3
        refine ldD_cell (k := .int .u8) (flips q mask k e.bl.data)[(q + k) / 8] id (hcell 0 (by decide)) ⟨by omega, ?_⟩
        refine ix_some hp (by omega) (by omega) ?_ hcap3
        have hy : bitI .xor .u8 (flips q mask k e.bl.data)[(q + k) / 8] (shlI .u8 1 (((q + k) % 8 : Nat) : Int)) = ((((flips q mask k e.bl.data)[(q + k) / 8]).toNat ^^^ 2 ^ ((q + k) % 8) : Nat) : Int) := by
          have hN : (flips q mask k e.bl.data)[(q + k) / 8] = ((((flips q mask k e.bl.data)[(q + k) / 8]).toNat : Nat) : Int) := by omega
          have := bit_xor (n := ((flips q mask k e.bl.data)[(q + k) / 8]).toNat) (j := (q + k) % 8) (by omega) (by omega)
          rw [← hN] at this
          exact this
        rw [hy]
        have hylt := xor_lt8 (n := ((flips q mask k e.bl.data)[(q + k) / 8]).toNat) (j := (q + k) % 8) (by omega) (by omega)
        refine hs'.setB (e := ek) hek hit (by omega) hp fun ro2 v3 hs3 hM3 hro3 => hk28 _ ⟨ro2, ?_, ?_, fun x hx => hro x (hro3 x hx)⟩
        · have hf : flips q mask (k + 1) e.bl.data = (flips q mask k e.bl.data).set ((q + k) / 8) ((((flips q mask k e.bl.data)[(q + k) / 8]).toNat ^^^ 2 ^ ((q + k) % 8) : Nat) : Int) := by
            rw [flips, if_pos ⟨h4, h5⟩, flipAt]
            have : (flips q mask k e.bl.data).getD ((q + k) / 8) 0 = (flips q mask k e.bl.data)[(q + k) / 8] := by simp [List.getD, hget]
            rw [this]
          rw [hf]; exact hs3
        · exact (hM.trans (mod_drew v') (fun _ _ h => h) fun _ _ h => h.elim).trans hM3 (fun _ _ h => h) fun x _ hx => hro x hx
      · have h3 : ¬ (tb mask k = true ∧ q + k < 8 * e.bl.data.length) := fun x => by rw [hc2.2 x] at h3; cases h3
        have hf : flips q mask (k + 1) e.bl.data = flips q mask k e.bl.data := by rw [flips, if_neg h3]
        exact hk28 _ ⟨ro', by rw [hf]; exact hs, hM, hro⟩
    · have hk : k = 32 := by have hge : ¬ (k : Int) < 32 := of_decide_eq_false hge; omega
      subst hk
      exact hk21 _ hI
  · rintro v ⟨ro', hs, hM, _⟩
    refine unlock_ok (h1.of hs rfl rfl hM hD) fun w7 h7 _ => hK _ _ (h7.cast (abs_put (g := g) (e := e) (sl' := e.sl) (ro' := ro') (b' := { e.bl with data := flips q mask 32 e.bl.data }) he hn hA) rfl)
end
end Go.Proofs.Ytjldecomhpngmaa
