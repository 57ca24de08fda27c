/- A merge of things: how it lies, what it does, told plainly; the first of its functions. -/
import Derived.Test.YtfhojgammfkabaaL1
import Derived.Test.YtfhojgammfkabaaSMerge
namespace Go.Proofs.Ytfhojgammfkabaa
open Go.Vw

abbrev Thing := Int × Int
def ET : Enc Thing := ⟨2, fun x => [.int .i64 x.1, .int .i64 x.2], fun _ => rfl, by decide, fun x v h => by simp at h; rcases h with rfl | rfl <;> rfl⟩
def EI : Enc Int := ⟨1, fun x => [.int .i64 x], fun _ => rfl, by decide, fun x v h => by simp at h; subst h; rfl⟩
def EB : Enc Bool := ⟨1, fun x => [.bool x], fun _ => rfl, by decide, fun x v h => by simp at h; subst h; rfl⟩
def EF : Enc Value := ⟨1, fun v => [if isCell v then v else .nilFunc], fun _ => rfl, by decide, fun x v h => by simp at h; subst h; split <;> first | assumption | rfl⟩
/-- where a merge lies: its blocks, what does not turn while it is asked -/
structure Ly where
  b : Nat
  bf : Nat
  bh : Nat
  bs : Nat
  cv : Value
  fr : Sl
  cf : List Value
  n : Nat
  lo : Sl
/-- what turns -/
structure MS where
  hd : List Thing
  sm : List Bool
  win : Nat
  bg : Bool
  ov : Bool
  e : Int
def Ly.st (y : Ly) (s : MS) : List Value := [y.cv, (LV.sl y.fr).toV, (LV.sl ⟨some (y.bh, 0), y.n, y.n⟩).toV, (LV.sl ⟨some (y.bs, 0), y.n, y.n⟩).toV, (LV.sl y.lo).toV, .int .i64 s.win, .bool s.bg, .bool s.ov, .int .i64 s.e]
def Ly.m (y : Ly) (s : MS) (r : List (Nat × List Value)) : List (Nat × List Value) := (y.b, y.st s) :: (y.bf, y.cf) :: (y.bh, ET.cells s.hd) :: (y.bs, EB.cells s.sm) :: r
/-- a compare that only looks -/
def CmpOk (cv : Value) (cmp : Thing → Thing → Int) : Prop := ∀ (x y : Thing) (w : World) (K : Int → World → Prop), (∀ w', Mod (fun _ => False) w w' → K (cmp x y) w') →
  callV Try.prog cv [.agg [.int .i64 x.1, .int .i64 x.2], .agg [.int .i64 y.1, .int .i64 y.2]] w (.one (.leaf (.int .i64))) K
structure Ok (y : Ly) (s : MS) : Prop where
  hd : s.hd.length = y.n
  sm : s.sm.length = y.n
def getB (l : List Bool) (i : Nat) : Bool := l[i]?.getD false
def getT (l : List Thing) (i : Nat) : Thing := l[i]?.getD (0, 0)
/-- does what one source has come ahead of what the other has? -/
def aheadM (cmp : Thing → Thing → Int) (s : MS) (i j : Nat) : Bool :=
  if !getB s.sm i || !getB s.sm j then getB s.sm i
  else let c := cmp (getT s.hd i) (getT s.hd j); decide (c < 0) || (c == 0 && decide (i < j))
section
variable {w0 w : World} {D : Nat → Prop} {y : Ly} {s : MS} {r : List (Nat × List Value)}
theorem getB_at {l : List Bool} {i : Nat} (h : i < l.length) : l[i]? = some (getB l i) := by simp [getB, h]
theorem getT_at {l : List Thing} {i : Nat} (h : i < l.length) : l[i]? = some (getT l i) := by simp [getT, h]
theorem at_some (hA : At w0 D (y.m s r) w) (ho : Ok y s) {i : Nat} (hi : i < y.n) : w.cell? ⟨y.bs, 0 + (i : Int).toNat * 1, none⟩ = some (LV.mk .bool (getB s.sm i)).toV := by
  rw [(hA.blk (i := 3) rfl).cell, Nat.zero_add]
  have := EB.cells_get s.sm i 0 (by decide)
  rw [Nat.add_zero] at this
  refine this.trans ?_
  rw [getB_at (by rw [ho.sm]; exact hi)]; rfl
theorem at_head0 (hA : At w0 D (y.m s r) w) (ho : Ok y s) {i : Nat} (hi : i < y.n) : w.cell? ⟨y.bh, 0 + (i : Int).toNat * 2, none⟩ = some (LV.mk (.int .i64) (getT s.hd i).1).toV := by
  rw [(hA.blk (i := 2) rfl).cell, Nat.zero_add]
  have := ET.cells_get s.hd i 0 (by decide)
  rw [Nat.add_zero] at this
  refine this.trans ?_
  rw [getT_at (by rw [ho.hd]; exact hi)]; rfl
theorem at_head1 (hA : At w0 D (y.m s r) w) (ho : Ok y s) {i : Nat} (hi : i < y.n) : w.cell? ⟨y.bh, 0 + (i : Int).toNat * 2 + 1, none⟩ = some (LV.mk (.int .i64) (getT s.hd i).2).toV := by
  rw [(hA.blk (i := 2) rfl).cell, Nat.zero_add]
  refine (ET.cells_get s.hd i 1 (by decide)).trans ?_
  rw [getT_at (by rw [ho.hd]; exact hi)]; rfl
theorem ahead_ok (hA : At w0 D (y.m s r) w) (ho : Ok y s) {cmp : Thing → Thing → Int} (hc : CmpOk y.cv cmp) {i j : Nat} (hi : i < y.n) (hj : j < y.n) {K : Bool → World → Prop}
    (hK : ∀ w', At w0 D (y.m s r) w' → Mod (fun _ => False) w w' → K (aheadM cmp s i j) w') :
    callK Try.prog 56 [.leaf (.ptr (some (y.b, 0))), .leaf (.int .i64 i), .leaf (.int .i64 j)] w (.one (.leaf .bool)) K := by
  refine go_merge_Merge_ahead_winnowref11_Thing _ _ _ _ _ ?_
  have hin : ∀ k : Nat, k < y.n → (0 : Int) ≤ k ∧ (k : Int) < (y.n : Nat) := fun k hk => ⟨by omega, by omega⟩
  unfold S_merge_Merge_ahead_winnowref11_Thing
  refine join1 (a := .bool) (fun t w' => w' = w ∧ t = (!getB s.sm i || !getB s.sm j)) (fun k hk => ?_) ?_
  · refine dr_some (hA.ld 0 _ rfl rfl ?_)
    refine ix_some rfl (hin i hi).1 (hin i hi).2 (ld_cell _ (at_some hA ho hi) ?_)
    refine ifK_intro (fun h => hk _ _ ⟨rfl, ?_⟩) (fun h => ?_)
    · rw [h]; rfl
    · refine dr_some (hA.ld 0 _ rfl rfl ?_)
      refine ix_some rfl (hin j hj).1 (hin j hj).2 (ld_cell _ (at_some hA ho hj) (hk _ _ ⟨rfl, ?_⟩))
      rw [h]; rfl
  · rintro t w' ⟨rfl, ht⟩
    refine ifK_intro (fun h => ?_) (fun h => ?_)
    · refine dr_some (hA.ld 0 _ rfl rfl ?_)
      refine ix_some rfl (hin i hi).1 (hin i hi).2 (ld_cell _ (at_some hA ho hi) ?_)
      have := hK _ hA (Mod.refl _ _)
      unfold aheadM at this
      rw [if_pos (ht ▸ h)] at this
      exact this
    · have hA1 := hA.drew
      refine ⟨fun _ => False, ?_⟩
      refine dr_some (hA1.ldD 0 _ rfl rfl id ?_)
      refine dr_some (hA1.ldD 0 _ rfl rfl id ?_)
      refine ix_some rfl (hin i hi).1 (hin i hi).2 (ldD_cell _ id (at_head0 hA1 ho hi) (ldD_cell _ id (at_head1 hA1 ho hi) ?_))
      refine dr_some (hA1.ldD 0 _ rfl rfl id ?_)
      refine ix_some rfl (hin j hj).1 (hin j hj).2 (ldD_cell _ id (at_head0 hA1 ho hj) (ldD_cell _ id (at_head1 hA1 ho hj) ?_))
      refine hc (getT s.hd i) (getT s.hd j) _ _ fun w2 hM => ⟨hM, ?_⟩
      have hA2 := hA1.keep0 hM fun _ => id
      have h2 := hK _ hA2 ((Mod.drew _ _).trans hM (fun _ _ h => h) (fun _ _ h => h))
      unfold aheadM at h2
      rw [if_neg (by rw [← ht, h]; decide)] at h2
      refine join1 (a := .bool) (fun t w' => w' = w2 ∧ t = (decide (cmp (getT s.hd i) (getT s.hd j) < 0) || (cmp (getT s.hd i) (getT s.hd j) == 0 && decide (i < j)))) (fun k hk => ?_) ?_
      · refine ifK_intro (fun h => hk _ _ ⟨rfl, by rw [h]; rfl⟩) fun h => ifK_intro (fun h' => hk _ _ ⟨rfl, ?_⟩) fun h' => hk _ _ ⟨rfl, by rw [h, h']; rfl⟩
        rw [h, h']; simp
      · rintro t' w' ⟨rfl, rfl⟩; exact h2
end
end Go.Proofs.Ytfhojgammfkabaa
