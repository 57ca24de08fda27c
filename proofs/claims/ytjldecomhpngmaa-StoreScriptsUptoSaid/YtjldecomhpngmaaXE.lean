/- The document's own store: Flip. -/
import Derived.Test.YtjldecomhpngmaaXD
namespace Go.Proofs.Ytjldecomhpngmaa
open Go.Vw

theorem turn_nat : ∀ (b : Fin 256) (j : Fin 8), (if ((IntKind.wrap .u8 ((b.1 : Int).tdiv ((2 ^ j.1 : Nat) : Int))).tmod 2 == 0) = true then IntKind.wrap .u8 ((b.1 : Int) + ((2 ^ j.1 : Nat) : Int)) else IntKind.wrap .u8 ((b.1 : Int) - ((2 ^ j.1 : Nat) : Int))) = ((b.1 ^^^ 2 ^ j.1 : Nat) : Int) := by decide +kernel
theorem turned_ok {b j : Nat} (hb : b < 256) (hj : j < 8) {w : World} {K : Int → World → Prop} (hK : K ((b ^^^ 2 ^ j : Nat) : Int) w) : callK Try.prog 63 [.leaf (.int .u8 (b : Int)), .leaf (.int .i64 (j : Int))] w (.one (.leaf (.int .u8))) K := by
  refine go_winnowref5_turned _ _ _ _ ?_
  refine join1 (a := .int .u8) (fun (z : Int) u => z = ((2 ^ j : Nat) : Int) ∧ u = w) ?_ ?_
  · intro k3 hk3
    refine loop2 (k1 := .int .u8) (k2 := .int .i64) (fun (x : Int) (i : Int) u => u = w ∧ ∃ k : Nat, i = k ∧ k ≤ j ∧ x = ((2 ^ k : Nat) : Int)) (fun _ i _ => (j - i).toNat) (x1 := 1) (x2 := 0) rfl rfl ⟨rfl, 0, rfl, by omega, rfl⟩ ?_
    rintro x i u ⟨rfl, k, rfl, hk, rfl⟩
    refine ifK_intro (fun h => ?_) fun h => ?_
    · have hlt : k < j := dlt h
      have e : ((2 ^ k : Nat) : Int) * 2 = ((2 ^ (k + 1) : Nat) : Int) := by rw [Nat.pow_succ]; push_cast; rfl
      have hp : 2 ^ (k + 1) < 2 ^ IntKind.bits .u8 := Nat.pow_lt_pow_right (by decide) (by show k + 1 < 8; omega)
      rw [e, wrap_u (k := .u8) rfl hp]
      exact ⟨⟨rfl, k + 1, step64 (by omega), by omega, rfl⟩, by rw [step64 (by omega)]; omega⟩
    · have hge : j ≤ k := dge h
      have : k = j := by omega
      subst this
      exact hk3 _ _ ⟨rfl, rfl⟩
  rintro z u ⟨rfl, rfl⟩
  have h := turn_nat ⟨b, hb⟩ ⟨j, hj⟩
  have hpos : 0 < 2 ^ j := Nat.pow_pos (by decide)
  refine ⟨fun h0 => Nat.ne_of_gt hpos (Int.ofNat_eq_zero.1 h0), ifK_intro (fun h1 => ?_) fun h1 => ?_⟩
  · rw [if_pos h1] at h; rw [h]; exact hK
  · rw [if_neg (by rw [h1]; simp)] at h; rw [h]; exact hK
theorem Enc.cells_same {α : Type} (E : Enc α) {y : α} : ∀ {l : List α} {i : Nat} {x : α}, l[i]? = some x → E.f y = E.f x → E.cells (l.set i y) = E.cells l
  | [], _, _, h, _ => by simp at h
  | z :: l, 0, x, h, e => by simp at h; subst h; simp [Enc.cells, e]
  | z :: l, i + 1, x, h, e => by
    have := Enc.cells_same E (y := y) (l := l) (i := i) (x := x) (by simpa using h) e
    simp [Enc.cells, this]
theorem VecL.same {α : Type} {ro : BL} {E : Enc α} {s : Sl} {l : List α} (h : VecL ro E s l) {i : Nat} {x y : α} (hx : l[i]? = some x) (e : E.f y = E.f x) : VecL ro E s (l.set i y) := by
  refine ⟨by rw [List.length_set]; exact h.1, h.2.1, ?_⟩
  rw [Enc.cells_same E hx e]
  exact h.2.2
section
variable {w0 w : World} {D : Nat → Prop} {g : RG}
/-- a byte of a blob is written -/
theorem RG.setB {i : Nat} {x : Str × Sl × Bl} (hA : At w0 D g.parts.flatten w) (hg : g.ok) (hx : g.es[i]? = some x) {t : Nat} (ht : t < x.2.2.data.length) {y : Int} (hy : 0 ≤ y ∧ y < 256) {b o : Nat} (hp : x.2.1.p = some (b, o)) {K : World → Prop}
    (hK : ∀ ro' w', At w0 D ({ g with es := g.es.set i (x.1, x.2.1, { x.2.2 with data := x.2.2.data.set t y }), ros := g.ros.set i ro' } : RG).parts.flatten w' → ({ g with es := g.es.set i (x.1, x.2.1, { x.2.2 with data := x.2.2.data.set t y }), ros := g.ros.set i ro' } : RG).ok → K w') : st w b (o + t * 1) [.int .u8 y] K := by
  have hi : i < g.es.length := (List.getElem?_eq_some_iff.1 hx).1
  have hri : g.ros[i]? = some (g.ros[i]'(by rw [hg.n]; exact hi)) := List.getElem?_eq_getElem (by rw [hg.n]; exact hi)
  have hpi : g.parts[i + 2]? = some (g.ros[i]'(by rw [hg.n]; exact hi)) := by simp [RG.parts, hri]
  obtain ⟨hv, hok⟩ := hg.vec i x _ hx hri
  have h1 := hA.part hpi
  refine h1.setL hv (k := t) (y := y) ht rfl hp fun ro' w' hA' hv' _ => hK ro' w' ?_ ⟨hg.vL.same hx rfl, ?_, ?_, fun k z r hz hr => ?_⟩
  · have := At.unpart hpi hA'
    have e : g.parts.set (i + 2) ro' = ({ g with es := g.es.set i (x.1, x.2.1, { x.2.2 with data := x.2.2.data.set t y }), ros := g.ros.set i ro' } : RG).parts := by simp [RG.parts, RG.qc]
    rw [e] at this; exact this
  · simp [hg.n]
  · simp; exact hg.len
  · have hz : (g.es.set i (x.1, x.2.1, { x.2.2 with data := x.2.2.data.set t y }))[k]? = some z := hz
    have hr : (g.ros.set i ro')[k]? = some r := hr
    rw [List.getElem?_set] at hz hr
    by_cases e : i = k
    · subst e
      simp [hi, hg.n] at hz hr
      subst hz; subst hr
      refine ⟨hv', hok.lo, hok.hi, by simp; exact hok.len, fun x hx => ?_⟩
      rcases List.mem_or_eq_of_mem_set hx with hx | hx
      · exact hok.byte x hx
      · rw [hx]; exact hy
    · rw [if_neg e] at hz hr
      exact hg.vec k z r hz hr
theorem tb_div {m : Int} (h0 : 0 ≤ m) (k : Nat) : ((((m.toNat / 2 ^ k : Nat) : Int).tmod 2) == 1) = tb m k := by
  unfold tb
  rw [Nat.testBit_eq_decide_div_mod_eq]
  have : ((m.toNat / 2 ^ k : Nat) : Int).tmod 2 = ((m.toNat / 2 ^ k % 2 : Nat) : Int) := rfl
  rw [this]
  by_cases h : m.toNat / 2 ^ k % 2 = 1
  · rw [h]; rfl
  · have h0 : m.toNat / 2 ^ k % 2 = 0 := by omega
    rw [h0]; rfl
theorem rflip_ok (hA : At w0 D g.parts.flatten w) (hg : g.ok) (n : Str) (hn : n.length ≤ 1099511627776) (bit mask : Int) (hm0 : 0 ≤ mask) (hm1 : mask < 4294967296) {K : Int → World → Prop} (hK : ∀ g' w', RN w0 D g (flipA n bit mask g.abs).2 g.mt g' w' → K (flipA n bit mask g.abs).1 w') :
    callK Try.prog 52 [.leaf (.ptr (some (g.q, 0))), .leaf (.str n), .leaf (.int .i64 bit), .leaf (.int .u32 mask)] w (.one (.leaf (.int .i64))) K := by
  refine go_winnowref5_Store_Flip _ _ _ _ _ _ ?_
  refine rask_ok hA hg n hn (fun c hc hc2 _ => ?_) fun i x hx hxn hpre hask => ?_
  · have e1 : flipA n bit mask g.abs = (c, g.abs) := by unfold flipA; rw [hc]
    rw [e1] at hK
    exact ifK_t (by simpa using askA_c hc) (hK _ _ (rself hA hg))
  refine ifK_f rfl (dr_some (RG.ldQ hA (k := .sl) g.lS rfl (rix hA hg hx fun bL hp hkb => dr_some ?_)))
  obtain ⟨hok, hsl⟩ := RG.okE hg hx
  have hk3 := hok.len
  have hi : i < g.es.length := (List.getElem?_eq_some_iff.1 hx).1
  refine RG.ldE hA hg.vL hx hp (by decide) (k := .sl) x.2.1 rfl ?_
  rw [hsl]
  have h8 : w64 (8 * (x.2.2.data.length : Int)) = 8 * (x.2.2.data.length : Int) := by rw [w64_in (by omega) (by omega)]
  rw [h8]
  refine join1 (fun c u => u = w ∧ (c = true ↔ bit < 0 ∨ 8 * (x.2.2.data.length : Int) ≤ bit)) ?_ ?_
  · intro k2 hk2
    refine ifK_intro (fun h2 => hk2 _ _ ⟨rfl, ?_⟩) fun h2 => hk2 _ _ ⟨rfl, ?_⟩
    · have h2 : bit < 0 := by simpa using h2
      exact ⟨fun _ => .inl h2, fun _ => rfl⟩
    · have h2 : ¬ bit < 0 := by simpa using h2
      rw [decide_eq_true_eq]; omega
  rintro c u ⟨rfl, hc⟩
  refine ifK_intro (fun h2 => ?_) fun h2 => ?_
  · have e1 : flipA n bit mask g.abs = (56, g.abs) := by unfold flipA; rw [hask]; simp only; rw [if_pos (hc.1 h2)]
    rw [e1] at hK
    exact hK _ _ (rself hA hg)
  have h2 : ¬ (bit < 0 ∨ 8 * (x.2.2.data.length : Int) ≤ bit) := fun x => by rw [hc.2 x] at h2; cases h2
  have e1 : flipA n bit mask g.abs = (0, putA n { x.2.2 with data := flips bit.toNat mask 32 x.2.2.data } g.abs) := by unfold flipA; rw [hask]; simp only; rw [if_neg h2]
  rw [e1] at hK
  have hbit : bit = ((bit.toNat : Nat) : Int) := by omega
  generalize bit.toNat = q at hbit hK e1
  subst hbit
  let I : Nat → World → Prop := fun k v => ∃ g' : RG, At w0 D g'.parts.flatten v ∧ g'.ok ∧ g'.q = g.q ∧ g'.lS = g.lS ∧ g'.mt = g.mt ∧ g'.es = g.es.set i (x.1, x.2.1, { x.2.2 with data := flips q mask k x.2.2.data })
  refine join0 (fun v => I 32 v) ?_ ?_
  · intro k21 hk21
    refine loop2 (k1 := .int .u32) (k2 := .int .i64) (fun (z : Int) (i : Int) v => ∃ k : Nat, i = k ∧ k ≤ 32 ∧ z = ((mask.toNat / 2 ^ k : Nat) : Int) ∧ I k v) (fun _ i _ => (32 - i).toNat) (x1 := mask) (x2 := 0) rfl rfl
      ⟨0, rfl, by omega, by simp; omega, g, hA, hg, rfl, rfl, rfl, (set_self hx).symm⟩ ?_
    rintro z i2 v ⟨k, rfl, hk, rfl, hI⟩
    refine ifK_intro (fun hlt => ?_) fun hge => ?_
    · have hlt : k < 32 := by have hlt : (k : Int) < 32 := of_decide_eq_true hlt; omega
      have hqk : w64 ((q : Int) + (k : Int)) = ((q + k : Nat) : Int) := by rw [w64_in (by omega) (by omega)]; omega
      rw [hqk, tb_div hm0]
      refine join1 (fun c v' => v' = v ∧ (c = true ↔ tb mask k = true ∧ q + k < 8 * x.2.2.data.length)) ?_ ?_
      · intro k25 hk25
        refine ifK_intro (fun h3 => hk25 _ _ ⟨rfl, ?_⟩) fun h3 => hk25 _ _ ⟨rfl, ?_⟩
        · rw [decide_eq_true_eq]
          refine ⟨fun h => ⟨h3, ?_⟩, fun h => ?_⟩
          · have h : ((q + k : Nat) : Int) < 8 * (x.2.2.data.length : Int) := h
            omega
          · show ((q + k : Nat) : Int) < 8 * (x.2.2.data.length : Int)
            omega
        · rw [h3]; simp
      rintro c v' ⟨rfl, hc2⟩
      have hw1 : w64 ((k : Int) + 1) = ((k + 1 : Nat) : Int) := step64 (by omega)
      have hdiv : IntKind.wrap .u32 (((mask.toNat / 2 ^ k : Nat) : Int).tdiv 2) = ((mask.toNat / 2 ^ (k + 1) : Nat) : Int) := by
        have e : ((mask.toNat / 2 ^ k : Nat) : Int).tdiv 2 = ((mask.toNat / 2 ^ k / 2 : Nat) : Int) := rfl
        have hle : mask.toNat / 2 ^ k ≤ mask.toNat := Nat.div_le_self _ _
        rw [e, wrap_u (k := .u32) rfl (by show mask.toNat / 2 ^ k / 2 < 4294967296; omega), Nat.div_div_eq_div_mul, Nat.pow_succ]
      refine join0 (fun v2 => I (k + 1) v2) ?_ (fun v2 hv2 => ⟨⟨k + 1, hw1, by omega, hdiv, hv2⟩, by rw [hw1]; omega⟩)
      intro k28 hk28
      obtain ⟨g', hA', hg', hq', hl', hm', he'⟩ := hI
      refine ifK_intro (fun h3 => ?_) fun h3 => ?_
      · obtain ⟨h4, h5⟩ := hc2.1 h3
        have hAd := RG.drew hA'
        have hx' : g'.es[i]? = some (x.1, x.2.1, { x.2.2 with data := flips q mask k x.2.2.data }) := by rw [he', List.getElem?_set]; simp [hi]
        have hp' : g'.lS.p = some (bL, 0) := by rw [hl']; exact hp
        have hfl := flips_length q mask k x.2.2.data
        have hit : (q + k) / 8 < (flips q mask k x.2.2.data).length := by rw [hfl]; omega
        have hget : (flips q mask k x.2.2.data)[(q + k) / 8]? = some (flips q mask k x.2.2.data)[(q + k) / 8] := List.getElem?_eq_getElem hit
        have hrd : RdS v'.drew EU x.2.1 (flips q mask k x.2.2.data) := RG.dataRd hAd hg' hx'
        obtain ⟨hok', _⟩ := RG.okE hg' hx'
        have hby := hok'.byte _ (List.getElem_mem hit)
        obtain ⟨b, o, hpd, hlt2, hcell⟩ := hrd.at hget
        have hcap := hrd.has
        refine ⟨F0, dr_some (RG.ldDE hAd hg'.vL hx' hp' (by decide) (k := .sl) x.2.1 id rfl (dr_some (RG.ldDE hAd hg'.vL hx' hp' (by decide) (k := .sl) x.2.1 id rfl ?_)))⟩
        have hdv : ((((q + k : Nat) : Int)).tdiv 8) = (((q + k) / 8 : Nat) : Int) := rfl
        have hmd : ((((q + k : Nat) : Int)).tmod 8) = (((q + k) % 8 : Nat) : Int) := rfl
        have hdw : w64 (((q + k) / 8 : Nat) : Int) = (((q + k) / 8 : Nat) : Int) := w64_in (by omega) (by omega)
        rw [hdv, hmd, hdw]
        refine ix_some hpd (by omega) (by omega) ?_ hcap
        refine ldD_cell (k := .int .u8) (flips q mask k x.2.2.data)[(q + k) / 8] id (hcell 0 (by decide)) ?_
        have hN : (flips q mask k x.2.2.data)[(q + k) / 8] = ((((flips q mask k x.2.2.data)[(q + k) / 8]).toNat : Nat) : Int) := by
          have : 0 ≤ (flips q mask k x.2.2.data)[(q + k) / 8] := hby.1
          omega
        rw [hN]
        have h256 : ((flips q mask k x.2.2.data)[(q + k) / 8]).toNat < 256 := by
          have : (flips q mask k x.2.2.data)[(q + k) / 8] < 256 := hby.2
          omega
        refine turned_ok h256 (by omega) ⟨Mod.refl _ _, ?_⟩
        refine ix_some hpd (by omega) (by omega) ?_ hcap
        have hylt := xor_lt8 (n := ((flips q mask k x.2.2.data)[(q + k) / 8]).toNat) (j := (q + k) % 8) h256 (by omega)
        refine RG.setB hAd hg' hx' hit (by omega) hpd fun ro2 v3 hA3 hg3 => hk28 _ ⟨_, hA3, hg3, hq', hl', hm', ?_⟩
        have hf : flips q mask (k + 1) x.2.2.data = (flips q mask k x.2.2.data).set ((q + k) / 8) ((((flips q mask k x.2.2.data)[(q + k) / 8]).toNat ^^^ 2 ^ ((q + k) % 8) : Nat) : Int) := by
          rw [flips, if_pos ⟨h4, h5⟩, flipAt]
          have : (flips q mask k x.2.2.data).getD ((q + k) / 8) 0 = (flips q mask k x.2.2.data)[(q + k) / 8] := by simp [List.getD, hget]
          rw [this]
        rw [hf]
        show g'.es.set i _ = _
        rw [he', List.set_set]
      · have h3 : ¬ (tb mask k = true ∧ q + k < 8 * x.2.2.data.length) := fun x => by rw [hc2.2 x] at h3; cases h3
        have hf : flips q mask (k + 1) x.2.2.data = flips q mask k x.2.2.data := by rw [flips, if_neg h3]
        exact hk28 _ ⟨g', hA', hg', hq', hl', hm', by rw [hf]; exact he'⟩
    · have hk : k = 32 := by have hge : ¬ (k : Int) < 32 := of_decide_eq_false hge; omega
      subst hk
      exact hk21 _ hI
  · rintro v ⟨g', hA', hg', hq', hl', hm', he'⟩
    refine hK g' v ⟨hA', hg', hq', ?_, hm'⟩
    unfold RG.abs
    rw [he']
    exact rabs_set hx hxn hpre hxn
end
end Go.Proofs.Ytjldecomhpngmaa
