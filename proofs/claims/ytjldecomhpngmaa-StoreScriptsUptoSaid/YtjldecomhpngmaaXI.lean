/- What was handed out stands. -/
import Derived.Test.YtjldecomhpngmaaXH
namespace Go.Proofs.Ytjldecomhpngmaa
open Go.Vw

theorem wrapB (n : Nat) : IntKind.wrap .u8 ((n : Int).tmod 199) = mB n := by
  show IntKind.wrap .u8 ((n % 199 : Nat) : Int) = _
  unfold mB IntKind.wrap
  have e : (2 : Int) ^ IntKind.u8.bits = 256 := rfl
  simp only [IntKind.signed, Bool.false_and, e]
  simp; omega
theorem wrapG (n : Nat) : IntKind.wrap .u8 (w64 (200 + ((n : Int).tmod 55))) = mG n := by
  show IntKind.wrap .u8 (w64 (200 + ((n % 55 : Nat) : Int))) = _
  rw [w64_in (by omega) (by omega)]
  unfold mG IntKind.wrap
  have e : (2 : Int) ^ IntKind.u8.bits = 256 := rfl
  simp only [IntKind.signed, Bool.false_and, e]
  simp; omega
theorem scanB {w : World} {bw : Nat} {c : List Value} (hb : Blk w bw c) {off : Nat} {sX : Sl} (hc : c[off]? = some (LV.sl sX).toV) {lX : List Sl} (hX : RdS w ESl sX lX) {n : Nat} {s : Sl} (hn : lX[n]? = some s) {l : List Int} (hs : RdS w EU s l) (hlen : l.length ≤ 1099511627776) {start : Nat} (hst : start ≤ l.length) {y : Int} (hy : ∀ x ∈ l.drop start, x = y)
    {k F : World → Prop} (hk : k w) : loopL [.int .i64] (fun i w again => dr (some (bw, 0)) fun b o => ld w .sl b (o + off) fun a => ix a 1 (n : Int) fun b o => ld w .sl b o fun a => ifK (decide (i < (a.len : Int)))
      (dr (some (bw, 0)) fun b o => ld w .sl b (o + off) fun a => ix a 1 (n : Int) fun b o => ld w .sl b o fun a => ix a 1 i fun b o => ld w (.int .u8) b o fun x => ifK (x != y) (F w) (again (w64 (i + 1)) w)) (k w)) [.int .i64 (start : Int)] w := by
  have l0 : ∀ {K : Sl → Prop}, K sX → Go.Vw.ld w .sl bw (0 + off) K := fun hK => ⟨sX, by rw [Nat.zero_add, hb.cell]; exact hc, hK⟩
  refine loop1 (k := .int .i64) (fun (i : Int) u => u = w ∧ ∃ j : Nat, i = j ∧ start ≤ j ∧ j ≤ l.length) (fun i _ => (l.length - i).toNat) (x := (start : Int)) rfl ⟨rfl, start, rfl, Nat.le_refl _, hst⟩ ?_
  rintro i u ⟨rfl, j, rfl, hj1, hj2⟩
  refine dr_some (l0 ?_)
  refine hX.ix rfl rfl hn fun b o _ hc => ld_cell (k := .sl) s (hc 0 (by decide)) ?_
  rw [hs.len]
  refine ifK_intro (fun h => ?_) fun _ => hk
  have hlt : j < l.length := dlt h
  have hx : l[j]? = some l[j] := List.getElem?_eq_getElem hlt
  refine dr_some (l0 (hX.ix rfl rfl hn fun b o _ hc => ld_cell (k := .sl) s (hc 0 (by decide)) ?_))
  refine hs.ix rfl rfl hx fun b o _ hc => ld_cell (k := .int .u8) l[j] (EUcell hc) ?_
  have e : l[j] = y := hy _ (List.mem_iff_getElem?.2 ⟨j - start, by rw [List.getElem?_drop, Nat.add_sub_cancel' hj1]; exact hx⟩)
  rw [e]
  exact ifK_f (by simp) ⟨⟨rfl, j + 1, step64 (by omega), by omega, by omega⟩, by rw [step64 (by omega)]; omega⟩
theorem scanL {w : World} {bw : Nat} {c : List Value} (hb : Blk w bw c) {off : Nat} {sX : Sl} (hc : c[off]? = some (LV.sl sX).toV) {lX : List Sl} (hX : RdS w ESl sX lX) {n : Nat} {s : Sl} (hn : lX[n]? = some s) {l : List (Str × Int × Int)} (hs : RdS w EBi s l) (hlen : l.length ≤ 1099511627776) {start : Nat} (hst : start ≤ l.length) {y1 : Str} {y2 y3 : Int} (hy : ∀ x ∈ l.drop start, x = (y1, y2, y3))
    {o1 o2 : Operand} {k F : World → Prop} (hk : k w) : loopL [.int .i64] (fun i w again => dr (some (bw, 0)) fun b o => ld w .sl b (o + off) fun a => ix a 1 (n : Int) fun b o => ld w .sl b o fun a => ifK (decide (i < (a.len : Int)))
      (dr (some (bw, 0)) fun b o => ld w .sl b (o + off) fun a => ix a 1 (n : Int) fun b o => ld w .sl b o fun a => ix a 3 i fun b o => ld w .str b o fun x1 => ld w (.int .i64) b (o + 1) fun x2 => ld w (.int .i64) b (o + 2) fun x3 =>
        opF Try.prog (vS (do eqGuard .neq 59 o1 o2 (.agg #[(LV.toV (.str x1)), (LV.toV (.int .i64 x2)), (LV.toV (.int .i64 x3))]) (.agg #[(LV.toV (.str y1)), (LV.toV (.int .i64 y2)), (LV.toV (.int .i64 y3))]); binOp .neq 59 (.agg #[(LV.toV (.str x1)), (LV.toV (.int .i64 x2)), (LV.toV (.int .i64 x3))]) (.agg #[(LV.toV (.str y1)), (LV.toV (.int .i64 y2)), (LV.toV (.int .i64 y3))]))) w (.one (.leaf (.bool))) fun c w =>
        ifK c (F w) (again (w64 (i + 1)) w)) (k w)) [.int .i64 (start : Int)] w := by
  have l0 : ∀ {K : Sl → Prop}, K sX → Go.Vw.ld w .sl bw (0 + off) K := fun hK => ⟨sX, by rw [Nat.zero_add, hb.cell]; exact hc, hK⟩
  refine loop1 (k := .int .i64) (fun (i : Int) u => u = w ∧ ∃ j : Nat, i = j ∧ start ≤ j ∧ j ≤ l.length) (fun i _ => (l.length - i).toNat) (x := (start : Int)) rfl ⟨rfl, start, rfl, Nat.le_refl _, hst⟩ ?_
  rintro i u ⟨rfl, j, rfl, hj1, hj2⟩
  refine dr_some (l0 ?_)
  refine hX.ix rfl rfl hn fun b o _ hc => ld_cell (k := .sl) s (hc 0 (by decide)) ?_
  rw [hs.len]
  refine ifK_intro (fun h => ?_) fun _ => hk
  have hlt : j < l.length := dlt h
  have hx : l[j]? = some l[j] := List.getElem?_eq_getElem hlt
  have e : l[j] = (y1, y2, y3) := hy _ (List.mem_iff_getElem?.2 ⟨j - start, by rw [List.getElem?_drop, Nat.add_sub_cancel' hj1]; exact hx⟩)
  rw [e] at hx
  refine dr_some (l0 (hX.ix rfl rfl hn fun b o _ hc => ld_cell (k := .sl) s (hc 0 (by decide)) ?_))
  refine hs.ix rfl rfl hx fun b o _ hc => ld_cell (k := .str) y1 (hc 0 (by decide)) (ld_cell (k := .int .i64) y2 (hc 1 (by decide)) (ld_cell (k := .int .i64) y3 (hc 2 (by decide)) ?_))
  refine neq_info ?_
  exact ifK_f (by simp) ⟨⟨rfl, j + 1, step64 (by omega), by omega, by omega⟩, by rw [step64 (by omega)]; omega⟩
section
variable {w0 w : World} {D : Nat → Prop} {S : WS} {kept : BL}
theorem rep_drop {α : Type} {a m : Nat} {y z : α} : ∀ x ∈ (List.replicate a y ++ List.replicate m z).drop a, x = z := by
  intro x hx
  rw [List.drop_append_of_le_length (by simp), List.drop_of_length_le (by simp), List.nil_append] at hx
  exact List.eq_of_mem_replicate hx
theorem stands_ok (hA : At w0 D (S.parts kept).flatten w) (hS : S.ok kept) (hlB : S.lB.length ≤ 1073741824) (hlL : S.lL.length ≤ 1073741824) {K : Bool → World → Prop} (hK : K true w) : callK Try.prog 27 [.leaf (.ptr (some (S.bw, 0)))] w (.one (.leaf .bool)) K := by
  refine go_winnowlaw5_World_stands _ _ _ ?_
  have hb : Blk w S.bw S.c := hA.own (S.bw, S.c) (by simp [WS.parts])
  have hkB : ∀ p ∈ kept, Blk w p.1 p.2 := fun p hp => hA.own p (by simp [WS.parts, hp])
  have rB : RdS w ESl S.sB S.lB := hS.vB.rd fun p hp => hA.own p (by simp [WS.parts, hp])
  have rL : RdS w ESl S.sL S.lL := hS.vL.rd fun p hp => hA.own p (by simp [WS.parts, hp])
  have rG : RdS w ESl S.sG S.lG := hS.vG.rd fun p hp => hA.own p (by simp [WS.parts, hp])
  have rW : RdS w ESl S.sW S.lW := hS.vW.rd fun p hp => hA.own p (by simp [WS.parts, hp])
  have l0 : ∀ {off : Nat} {sX : Sl} {K : Sl → Prop}, S.c[off]? = some (LV.sl sX).toV → K sX → Go.Vw.ld w .sl S.bw (0 + off) K := fun {off sX K} hc hK => ⟨sX, by rw [Nat.zero_add, hb.cell]; exact hc, hK⟩
  refine join0 (fun u => u = w) ?_ ?_
  · intro k2 hk2
    refine loop1 (k := .int .i64) (fun (i : Int) u => u = w ∧ ∃ j : Nat, i = j ∧ j ≤ S.lB.length) (fun i _ => (S.lB.length - i).toNat) (x := 0) rfl ⟨rfl, 0, rfl, Nat.zero_le _⟩ ?_
    rintro i u ⟨rfl, j, rfl, hj⟩
    refine dr_some (l0 (sX := S.sB) rfl ?_)
    rw [hS.vB.1]
    refine ifK_intro (fun h => ?_) fun _ => hk2 _ rfl
    have hlt : j < S.lB.length := dlt h
    have h1 : S.lB[j]? = some S.lB[j] := List.getElem?_eq_getElem hlt
    have h2 : S.lG[j]? = some (S.lG[j]'(by rw [hS.nB]; exact hlt)) := List.getElem?_eq_getElem _
    generalize S.lB[j] = s at h1
    generalize (S.lG[j]'(by rw [hS.nB]; exact hlt)) = s' at h2
    obtain ⟨v1, v2⟩ := hS.kB j s s' h1 h2
    have hsl := hS.bB s (List.mem_iff_getElem?.2 ⟨j, h1⟩)
    refine join0 (fun v => v = u) ?_ ?_
    · intro k9 hk9
      refine scanB hb (off := 2) (sX := S.sB) rfl rB h1 (v1.rd hkB) (by simp; omega) (start := 0) (Nat.zero_le _) (y := IntKind.wrap .u8 ((j : Int).tmod 199)) (fun x hx => ?_) (hk9 _ rfl)
      rw [wrapB]
      exact List.eq_of_mem_replicate hx
    rintro v rfl
    refine dr_some (l0 (sX := S.sB) rfl ?_)
    refine rB.ix rfl rfl h1 fun b o _ hc => ld_cell (k := .sl) s (hc 0 (by decide)) ?_
    refine join0 (fun u => u = v) ?_ ?_
    · intro k35 hk35
      refine scanB hb (off := 4) (sX := S.sG) rfl rG h2 (v2.rd hkB) (by simp; omega) (start := s.len) (by simp) (y := IntKind.wrap .u8 (w64 (200 + ((j : Int).tmod 55)))) (fun x hx => ?_) (hk35 _ rfl)
      rw [wrapG]
      exact rep_drop x hx
    rintro u rfl
    exact ⟨⟨rfl, j + 1, step64 (by omega), by omega⟩, by rw [step64 (by omega)]; omega⟩
  rintro u rfl
  refine join0 (fun v => v = u) ?_ (by rintro v rfl; exact hK)
  intro k56 hk56
  refine loop1 (k := .int .i64) (fun (i : Int) v => v = u ∧ ∃ j : Nat, i = j ∧ j ≤ S.lL.length) (fun i _ => (S.lL.length - i).toNat) (x := 0) rfl ⟨rfl, 0, rfl, Nat.zero_le _⟩ ?_
  rintro i v ⟨rfl, j, rfl, hj⟩
  refine dr_some (l0 (sX := S.sL) rfl ?_)
  rw [hS.vL.1]
  refine ifK_intro (fun h => ?_) fun _ => hk56 _ rfl
  have hlt : j < S.lL.length := dlt h
  have h1 : S.lL[j]? = some S.lL[j] := List.getElem?_eq_getElem hlt
  have h2 : S.lW[j]? = some (S.lW[j]'(by rw [hS.nL]; exact hlt)) := List.getElem?_eq_getElem _
  generalize S.lL[j] = s at h1
  generalize (S.lW[j]'(by rw [hS.nL]; exact hlt)) = s' at h2
  obtain ⟨v1, v2⟩ := hS.kL j s s' h1 h2
  have hsl := hS.bL s (List.mem_iff_getElem?.2 ⟨j, h1⟩)
  refine join0 (fun u => u = v) ?_ ?_
  · intro k63 hk63
    refine scanL hb (off := 3) (sX := S.sL) rfl rL h1 (v1.rd hkB) (by simp; omega) (start := 0) (Nat.zero_le _) (fun x hx => ?_) (hk63 _ rfl)
    exact List.eq_of_mem_replicate hx
  rintro u rfl
  refine dr_some (l0 (sX := S.sL) rfl ?_)
  refine rL.ix rfl rfl h1 fun b o _ hc => ld_cell (k := .sl) s (hc 0 (by decide)) ?_
  refine join0 (fun v => v = u) ?_ ?_
  · intro k93 hk93
    have e1 : w64 (0 - (j : Int)) = -(j : Int) := by rw [w64_in (by omega) (by omega)]; omega
    have e2 : w64 ((w64 (0 - (j : Int))) - 1) = -(j : Int) - 1 := by rw [e1, w64_in (by omega) (by omega)]
    rw [e2]
    refine scanL hb (off := 5) (sX := S.sW) rfl rW h2 (v2.rd hkB) (by simp; omega) (start := s.len) (by simp) (fun x hx => ?_) (hk93 _ rfl)
    exact rep_drop x hx
  rintro v rfl
  exact ⟨⟨rfl, j + 1, step64 (by omega), by omega⟩, by rw [step64 (by omega)]; omega⟩
end
end Go.Proofs.Ytjldecomhpngmaa
