/- What was handed out: written full, kept, grown. (printed by tools/mkvn.py) -/
import Derived.Test.YtjldecomhpngmaaVM
import Derived.Test.YtjldecomhpngmaaSN
namespace Go.Proofs.Ytjldecomhpngmaa
open Go.Vw

def EBi : Enc (Str × Int × Int) := ⟨3, fun x => [(LV.str x.1).toV, .int .i64 x.2.1, .int .i64 x.2.2], fun _ => rfl, by decide, fun x v h => by simp at h; rcases h with rfl | rfl | rfl <;> rfl⟩
def mB (n : Nat) : Int := ((n % 199 : Nat) : Int)
def mG (n : Nat) : Int := ((200 + n % 55 : Nat) : Int)
def mL (n : Nat) : Str × Int × Int := ([109, 97, 114, 107, 101, 100], 0, n)
def mW (n : Nat) : Str × Int × Int := ([], 0, -(n : Int) - 1)
/-- the record World in memory -/
structure WS where
  bw : Nat
  p : PA
  q : PA
  sB : Sl
  sL : Sl
  sG : Sl
  sW : Sl
  lB : List Sl
  lL : List Sl
  lG : List Sl
  lW : List Sl
  rB : BL
  rL : BL
  rG : BL
  rW : BL
def WS.c (S : WS) : List Value := [(LV.ptr S.p).toV, (LV.ptr S.q).toV, (LV.sl S.sB).toV, (LV.sl S.sL).toV, (LV.sl S.sG).toV, (LV.sl S.sW).toV]
def WS.parts (S : WS) (kept : BL) : List BL := [[(S.bw, S.c)], S.rB, S.rL, S.rG, S.rW, kept]
structure WS.ok (S : WS) (kept : BL) : Prop where
  vB : VecL S.rB ESl S.sB S.lB
  vL : VecL S.rL ESl S.sL S.lL
  vG : VecL S.rG ESl S.sG S.lG
  vW : VecL S.rW ESl S.sW S.lW
  nB : S.lG.length = S.lB.length
  nL : S.lW.length = S.lL.length
  kB : ∀ (n : Nat) s s', S.lB[n]? = some s → S.lG[n]? = some s' → View kept EU s (List.replicate s.len (mB n)) ∧ View kept EU s' (List.replicate s.len (mB n) ++ List.replicate 64 (mG n))
  kL : ∀ (n : Nat) s s', S.lL[n]? = some s → S.lW[n]? = some s' → View kept EBi s (List.replicate s.len (mL n)) ∧ View kept EBi s' (List.replicate s.len (mL n) ++ List.replicate 64 (mW n))
  bB : ∀ s ∈ S.lB, s.len ≤ 1073741824
  bL : ∀ s ∈ S.lL, s.len ≤ 1073741824
theorem WS.ok.mono {S : WS} {kept kept' : BL} (h : S.ok kept) (hm : ∀ p ∈ kept, p ∈ kept') : S.ok kept' :=
  ⟨h.vB, h.vL, h.vG, h.vW, h.nB, h.nL, fun n s s' h1 h2 => ⟨(h.kB n s s' h1 h2).1.mono hm, (h.kB n s s' h1 h2).2.mono hm⟩, fun n s s' h1 h2 => ⟨(h.kL n s s' h1 h2).1.mono hm, (h.kL n s s' h1 h2).2.mono hm⟩, h.bB, h.bL⟩
theorem get_snoc {α : Type} {l : List α} {x y : α} {n : Nat} (h : (l ++ [x])[n]? = some y) : l[n]? = some y ∨ (n = l.length ∧ y = x) := by
  rw [List.getElem?_append] at h
  split at h
  · exact .inl h
  · rename_i hn
    right
    have : n - l.length = 0 := by
      have := (List.getElem?_eq_some_iff.1 h).1
      simp at this; omega
    rw [this] at h
    simp at h
    exact ⟨by omega, h.symm⟩
theorem keepBytes_ok {w0 w : World} {D : Nat → Prop} {S : WS} {kept ro : BL} {a : Sl} {data : List Int} (hA : At w0 D (S.parts kept ++ [ro]).flatten w) (hS : S.ok kept) (hv : VecL ro EU a data) (hl : S.lB.length ≤ 1073741824) (hdl : data.length ≤ 1073741824) {K : World → Prop}
    (hK : ∀ (S' : WS) (kept' : BL) w', At w0 D (S'.parts kept').flatten w' → S'.ok kept' → S'.p = S.p → S'.q = S.q → S'.bw = S.bw → S'.lB.length = S.lB.length + 1 → S'.lL = S.lL → (∀ p ∈ kept, p ∈ kept') → K w') :
    callK Try.prog 44 [.leaf (.ptr (some (S.bw, 0))), .leaf (.sl a)] w (.tup []) K := by
  refine go_winnowlaw5_World_keepBytes _ _ _ _ ?_
  refine dr_some (At.ldP (L := [[(S.bw, S.c)], S.rB, S.rL, S.rG, S.rW, kept, ro]) (i := 0) hA rfl (k := .sl) S.sB rfl ?_)
  have hlen : S.sB.len = S.lB.length := hS.vB.1
  rw [hlen]
  have hval : [LV.int .u8 (IntKind.wrap .u8 ((S.lB.length : Int).tmod 199))].map LV.toV = EU.f (mB S.lB.length) := by
    have : IntKind.wrap .u8 ((S.lB.length : Int).tmod 199) = mB S.lB.length := by
      show IntKind.wrap .u8 ((S.lB.length % 199 : Nat) : Int) = _
      unfold mB IntKind.wrap
      have e : (2 : Int) ^ IntKind.u8.bits = 256 := rfl
      simp only [IntKind.signed, Bool.false_and, e]
      simp; omega
    rw [this]; rfl
  have hval2 : [LV.int .u8 (IntKind.wrap .u8 (w64 (200 + ((S.lB.length : Int).tmod 55))))].map LV.toV = EU.f (mG S.lB.length) := by
    have : IntKind.wrap .u8 (w64 (200 + ((S.lB.length : Int).tmod 55))) = mG S.lB.length := by
      show IntKind.wrap .u8 (w64 (200 + ((S.lB.length % 55 : Nat) : Int))) = _
      rw [w64_in (by omega) (by omega)]
      unfold mG IntKind.wrap
      have e : (2 : Int) ^ IntKind.u8.bits = 256 := rfl
      simp only [IntKind.signed, Bool.false_and, e]
      simp; omega
    rw [this]; rfl
  refine join0 (fun u => ∃ ro', At w0 D ([[(S.bw, S.c)], S.rB, S.rL, S.rG, S.rW, kept, ro'] : List BL).flatten u ∧ VecL ro' EU a (List.replicate data.length (mB S.lB.length))) ?_ ?_
  · intro k hk
    have h1 := At.part (L := [[(S.bw, S.c)], S.rB, S.rL, S.rG, S.rW, kept, ro]) (i := 6) hA rfl
    exact fill_loop h1 hv (y := mB S.lB.length) hval rfl (by omega) fun ro' w' hA' hv' => hk _ ⟨ro', At.unpart (L := [[(S.bw, S.c)], S.rB, S.rL, S.rG, S.rW, kept, ro]) (i := 6) rfl hA', hv'⟩
  rintro w1 ⟨ro1, hA1, hv1⟩
  refine dr_some (hA1.ldP (i := 0) rfl (k := .sl) S.sB rfl (hA1.alP fun b17 w2 _ hA2 _ => ?_))
  have hb17 : Blk w2 b17 (ESl.f a) := hA2.blkP (i := 7) rfl
  have h2 := hA2.part (i := 1) rfl
  refine appL h2 hS.vB (rd_one hb17) rfl rfl (by simp; omega) fun sB' rB' w3 hA3 hvB' _ _ => dr_some ?_
  have hA3 := Go.Vw.At.unpart (i := 1) rfl hA3
  refine hA3.stP (i := 0) (b := S.bw) (c := S.c) rfl (by simp [WS.c]) fun w4 hA4 _ => ?_
  have hA4 := hA4.drop (i := 7) rfl
  let S1 : WS := { S with sB := sB', lB := S.lB ++ [a], rB := rB' }
  have hA5 : At w0 D ([[(S.bw, S1.c)], S1.rB, S1.rL, S1.rG, S1.rW, kept, ro1] : List BL).flatten w4 := hA4
  refine join1 (fun s' u => ∃ old ro2, At w0 D ([[(S.bw, S1.c)], S1.rB, S1.rL, S1.rG, S1.rW, kept, old, ro2] : List BL).flatten u ∧ VecL ro2 EU s' (List.replicate data.length (mB S.lB.length) ++ List.replicate 64 (mG S.lB.length)) ∧ View (old ++ ro2) EU a (List.replicate data.length (mB S.lB.length))) ?_ ?_
  · intro k hk
    have h5 := hA5.part (i := 6) rfl
    exact grow_loop h5 hv1 (y := mG S.lB.length) hval2 rfl rfl (by simp; omega) fun s' old ro2 w' hA' hv' hV => hk _ _ ⟨old, ro2, by simpa [List.append_assoc] using hA', hv', hV⟩
  rintro s' w5 ⟨old, ro2, hA6, hv6, hV⟩
  refine dr_some (hA6.ldP (i := 0) rfl (k := .sl) S.sG rfl (hA6.alP fun b38 w7 _ hA7 _ => ?_))
  have hb38 : Blk w7 b38 (ESl.f s') := hA7.blkP (i := 8) rfl
  have h7 := hA7.part (i := 3) rfl
  refine appL (ro := S.rG) (l := S.lG) h7 hS.vG (rd_one hb38) rfl rfl (by have := hS.nB; simp; omega) fun sG' rG' w8 hA8 hvG' _ _ => dr_some ?_
  have hA8 := Go.Vw.At.unpart (i := 3) rfl hA8
  refine hA8.stP (i := 0) (b := S.bw) (c := S1.c) rfl (by simp [WS.c]) fun w9 hA9 _ => ?_
  have hA9 := hA9.drop (i := 8) rfl
  let S2 : WS := { S1 with sG := sG', lG := S.lG ++ [s'], rG := rG' }
  have hA10 : At w0 D ([[(S.bw, S2.c)], S2.rB, S2.rL, S2.rG, S2.rW, kept, old, ro2] : List BL).flatten w9 := hA9
  refine hK S2 (kept ++ (old ++ ro2)) w9 (by simpa [WS.parts, List.append_assoc] using hA10) ?_ rfl rfl rfl (by simp [S2, S1]) rfl (fun p hp => List.mem_append_left _ hp)
  have hm : ∀ p ∈ kept, p ∈ kept ++ (old ++ ro2) := fun p hp => List.mem_append_left _ hp
  have hm2 : ∀ p ∈ old ++ ro2, p ∈ kept ++ (old ++ ro2) := fun p hp => List.mem_append_right _ hp
  refine ⟨hvB', hS.vL, hvG', hS.vW, by show (S.lG ++ [s']).length = (S.lB ++ [a]).length; simp [hS.nB], hS.nL, ?_, ?_, fun s (h : s ∈ S.lB ++ [a]) => (List.mem_append.1 h).elim (hS.bB s) fun h => by rw [List.mem_singleton.1 h, hv.1]; exact hdl, hS.bL⟩
  · intro n s t h1 h2
    rcases get_snoc h1 with h1 | ⟨rfl, rfl⟩
    · rcases get_snoc h2 with h2 | ⟨e, _⟩
      · exact ⟨(hS.kB n s t h1 h2).1.mono hm, (hS.kB n s t h1 h2).2.mono hm⟩
      · have := (List.getElem?_eq_some_iff.1 h1).1
        have := hS.nB; omega
    · rcases get_snoc h2 with h2 | ⟨_, rfl⟩
      · have := (List.getElem?_eq_some_iff.1 h2).1
        have := hS.nB; omega
      · have e : s.len = data.length := hv.1
        rw [e]
        exact ⟨hV.mono hm2, hv6.view.mono fun p hp => hm2 p (List.mem_append_right _ hp)⟩
  · intro n s t h1 h2
    exact ⟨(hS.kL n s t h1 h2).1.mono hm, (hS.kL n s t h1 h2).2.mono hm⟩
theorem keepList_ok {w0 w : World} {D : Nat → Prop} {S : WS} {kept ro : BL} {a : Sl} {data : List (Str × Int × Int)} (hA : At w0 D (S.parts kept ++ [ro]).flatten w) (hS : S.ok kept) (hv : VecL ro EBi a data) (hl : S.lL.length ≤ 1073741824) (hdl : data.length ≤ 1073741824) {K : World → Prop}
    (hK : ∀ (S' : WS) (kept' : BL) w', At w0 D (S'.parts kept').flatten w' → S'.ok kept' → S'.p = S.p → S'.q = S.q → S'.bw = S.bw → S'.lL.length = S.lL.length + 1 → S'.lB = S.lB → (∀ p ∈ kept, p ∈ kept') → K w') :
    callK Try.prog 50 [.leaf (.ptr (some (S.bw, 0))), .leaf (.sl a)] w (.tup []) K := by
  refine go_winnowlaw5_World_keepList _ _ _ _ ?_
  refine dr_some (At.ldP (L := [[(S.bw, S.c)], S.rB, S.rL, S.rG, S.rW, kept, ro]) (i := 0) hA rfl (k := .sl) S.sL rfl ?_)
  have hlen : S.sL.len = S.lL.length := hS.vL.1
  rw [hlen]
  have hval : [LV.str [109, 97, 114, 107, 101, 100], LV.int .i64 0, LV.int .i64 (S.lL.length : Int)].map LV.toV = EBi.f (mL S.lL.length) := rfl
  have hval2 : [LV.str [], LV.int .i64 0, LV.int .i64 (w64 ((w64 (0 - (S.lL.length : Int))) - 1))].map LV.toV = EBi.f (mW S.lL.length) := by
    have e1 : w64 (0 - (S.lL.length : Int)) = -(S.lL.length : Int) := by rw [w64_in (by omega) (by omega)]; omega
    have : w64 ((w64 (0 - (S.lL.length : Int))) - 1) = -(S.lL.length : Int) - 1 := by rw [e1, w64_in (by omega) (by omega)]
    rw [this]; rfl
  refine join0 (fun u => ∃ ro', At w0 D ([[(S.bw, S.c)], S.rB, S.rL, S.rG, S.rW, kept, ro'] : List BL).flatten u ∧ VecL ro' EBi a (List.replicate data.length (mL S.lL.length))) ?_ ?_
  · intro k hk
    have h1 := At.part (L := [[(S.bw, S.c)], S.rB, S.rL, S.rG, S.rW, kept, ro]) (i := 6) hA rfl
    exact fill_loop h1 hv (y := mL S.lL.length) hval rfl (by omega) fun ro' w' hA' hv' => hk _ ⟨ro', At.unpart (L := [[(S.bw, S.c)], S.rB, S.rL, S.rG, S.rW, kept, ro]) (i := 6) rfl hA', hv'⟩
  rintro w1 ⟨ro1, hA1, hv1⟩
  refine dr_some (hA1.ldP (i := 0) rfl (k := .sl) S.sL rfl (hA1.alP fun b17 w2 _ hA2 _ => ?_))
  have hb17 : Blk w2 b17 (ESl.f a) := hA2.blkP (i := 7) rfl
  have h2 := hA2.part (i := 2) rfl
  refine appL h2 hS.vL (rd_one hb17) rfl rfl (by simp; omega) fun sB' rB' w3 hA3 hvB' _ _ => dr_some ?_
  have hA3 := Go.Vw.At.unpart (i := 2) rfl hA3
  refine hA3.stP (i := 0) (b := S.bw) (c := S.c) rfl (by simp [WS.c]) fun w4 hA4 _ => ?_
  have hA4 := hA4.drop (i := 7) rfl
  let S1 : WS := { S with sL := sB', lL := S.lL ++ [a], rL := rB' }
  have hA5 : At w0 D ([[(S.bw, S1.c)], S1.rB, S1.rL, S1.rG, S1.rW, kept, ro1] : List BL).flatten w4 := hA4
  refine join1 (fun s' u => ∃ old ro2, At w0 D ([[(S.bw, S1.c)], S1.rB, S1.rL, S1.rG, S1.rW, kept, old, ro2] : List BL).flatten u ∧ VecL ro2 EBi s' (List.replicate data.length (mL S.lL.length) ++ List.replicate 64 (mW S.lL.length)) ∧ View (old ++ ro2) EBi a (List.replicate data.length (mL S.lL.length))) ?_ ?_
  · intro k hk
    have h5 := hA5.part (i := 6) rfl
    exact grow_loop h5 hv1 (y := mW S.lL.length) hval2 rfl rfl (by simp; omega) fun s' old ro2 w' hA' hv' hV => hk _ _ ⟨old, ro2, by simpa [List.append_assoc] using hA', hv', hV⟩
  rintro s' w5 ⟨old, ro2, hA6, hv6, hV⟩
  refine dr_some (hA6.ldP (i := 0) rfl (k := .sl) S.sW rfl (hA6.alP fun b38 w7 _ hA7 _ => ?_))
  have hb38 : Blk w7 b38 (ESl.f s') := hA7.blkP (i := 8) rfl
  have h7 := hA7.part (i := 4) rfl
  refine appL (ro := S.rW) (l := S.lW) h7 hS.vW (rd_one hb38) rfl rfl (by have := hS.nL; simp; omega) fun sG' rG' w8 hA8 hvG' _ _ => dr_some ?_
  have hA8 := Go.Vw.At.unpart (i := 4) rfl hA8
  refine hA8.stP (i := 0) (b := S.bw) (c := S1.c) rfl (by simp [WS.c]) fun w9 hA9 _ => ?_
  have hA9 := hA9.drop (i := 8) rfl
  let S2 : WS := { S1 with sW := sG', lW := S.lW ++ [s'], rW := rG' }
  have hA10 : At w0 D ([[(S.bw, S2.c)], S2.rB, S2.rL, S2.rG, S2.rW, kept, old, ro2] : List BL).flatten w9 := hA9
  refine hK S2 (kept ++ (old ++ ro2)) w9 (by simpa [WS.parts, List.append_assoc] using hA10) ?_ rfl rfl rfl (by simp [S2, S1]) rfl (fun p hp => List.mem_append_left _ hp)
  have hm : ∀ p ∈ kept, p ∈ kept ++ (old ++ ro2) := fun p hp => List.mem_append_left _ hp
  have hm2 : ∀ p ∈ old ++ ro2, p ∈ kept ++ (old ++ ro2) := fun p hp => List.mem_append_right _ hp
  refine ⟨hS.vB, hvB', hS.vG, hvG', hS.nB, by show (S.lW ++ [s']).length = (S.lL ++ [a]).length; simp [hS.nL], ?_, ?_, hS.bB, fun s (h : s ∈ S.lL ++ [a]) => (List.mem_append.1 h).elim (hS.bL s) fun h => by rw [List.mem_singleton.1 h, hv.1]; exact hdl⟩
  · intro n s t h1 h2
    exact ⟨(hS.kB n s t h1 h2).1.mono hm, (hS.kB n s t h1 h2).2.mono hm⟩
  · intro n s t h1 h2
    rcases get_snoc h1 with h1 | ⟨rfl, rfl⟩
    · rcases get_snoc h2 with h2 | ⟨e, _⟩
      · exact ⟨(hS.kL n s t h1 h2).1.mono hm, (hS.kL n s t h1 h2).2.mono hm⟩
      · have := (List.getElem?_eq_some_iff.1 h1).1
        have := hS.nL; omega
    · rcases get_snoc h2 with h2 | ⟨_, rfl⟩
      · have := (List.getElem?_eq_some_iff.1 h2).1
        have := hS.nL; omega
      · have e : s.len = data.length := hv.1
        rw [e]
        exact ⟨hV.mono hm2, hv6.view.mono fun p hp => hm2 p (List.mem_append_right _ hp)⟩
end Go.Proofs.Ytjldecomhpngmaa
