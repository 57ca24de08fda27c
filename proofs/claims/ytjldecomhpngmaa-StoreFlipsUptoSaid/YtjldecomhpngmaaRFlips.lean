/- StoreFlips answers true for every input whose reading is of bulk at most 1048576, and leaves its arguments as they read: the statement StoreFlipsUptoSaid. -/
import Derived.Test.YtjldecomhpngmaaVL
import Derived.Test.YtjldecomhpngmaaRB
namespace Go.Proofs.Ytjldecomhpngmaa.storeFlips
open Go.ChangeShapes Go.WideShapes Go.ChangeAt Go.RowKit
open Go.Vw (RdS callK LV AV Sl)
set_option linter.unusedVariables false

set_option maxRecDepth 100000 in
theorem contract (H : Type) (enc : TypeId × Value → H) (W : World) (base : Nat) (args : Array Value) (ds gs : List (DataW H)) (before : List MemPlace)
    (hval : ∀ (j : Nat) t v, Try.f4.params[j]? = some t → args[j]? = some v → Value.okWide Try.prog W .any base t v)
    (hW : DataW.Whole enc Try.prog Try.f4.params.toList Rows.storeFlipsSpec.vars false W args.toList ds gs before) (hk : Rows.uptoSmall H (ds ++ gs) = true) :
    Calls Try.prog 4 args W fun e W' => ∃ v, e = .returned v ∧ Rows.storeFlipsSpec.post enc Try.prog Try.f4 false true false false W args v W' := by
  have hW' := hW
  obtain ⟨p, q, hA0, hV, rfl, hfz, hnd⟩ := hW
  have hA : DataW.TrodAll enc Try.prog W 0 (fun _ => true) true Try.f4.params.toList args.toList ds p := hA0
  rw [Try.params4] at hA hval
  obtain ⟨v0, vs0, d0, ds0, p0, q0, hargs, rfl, rfl, h0, r0⟩ := trodAll_cons hA
  obtain ⟨v1, vs1, d1, ds1, p1, q1, rfl, rfl, rfl, h1, r1⟩ := trodAll_cons r0
  obtain ⟨v2, vs2, d2, ds2, p2, q2, rfl, rfl, rfl, h2, r2⟩ := trodAll_cons r1
  obtain ⟨rfl, rfl, rfl⟩ := trodAll_nil r2
  obtain rfl : args = #[v0, v1, v2] := by cases args; simp_all
  obtain ⟨rfl, rfl⟩ := trodVars_none hV
  have hb := bound hk
  simp only [List.append_nil, Rows.uptoBulkAll] at hb
  obtain ⟨a0, len0, cap0, rfl⟩ := okWide_slice Try.underlying22 (hval 0 22 v0 rfl rfl)
  obtain ⟨fuel0, h0⟩ := h0
  obtain ⟨s0, l0, hcs0, hr0, hlt0, hok0, hsum0⟩ := open_bytes h0
  have hsum0 : l0.length + 1 ≤ Rows.uptoBulk d0 := hsum0
  have hcs0 : Value.slice a0 len0 cap0 = (LV.sl s0).toV := by simpa [Value.cells] using hcs0
  rw [hcs0] at hW' ⊢
  obtain ⟨k1, rfl, rfl, rfl, wk1⟩ := open_int Try.underlying2 (hval 1 2 v1 rfl rfl) h1
  have wb1 := wf64 wk1
  obtain ⟨k2, rfl, rfl, rfl, wk2⟩ := open_int Try.underlying40 (hval 2 40 v2 rfl rfl) h2
  have wb2 := wf32 wk2
  refine Calls.mono (calls_true (args := [.leaf (.sl s0), .leaf (.int .i64 k1), .leaf (.int .u32 k2)]) (flips_walk hr0 (by omega) hok0 wb1.1 wb1.2 wb2.1 wb2.2 fun w' hM => ⟨rfl, hM⟩)) fun e W' ⟨he, hg⟩ => ?_
  subst he
  exact ⟨_, rfl, post_law hW' rfl (by kernel_rfl) rfl rfl rfl (by kernel_rfl) hg⟩
set_option maxRecDepth 100000 in
theorem lifted (os : Os) (started : os.Started) (H : Type) (enc : TypeId × Value → H) (F : Stop.Interp) :
    ReturnsInHanded {} Try.checked os 4 .any ((Rows.OpenSpec.upto Rows.storeFlipsSpec).pre6 enc Try.prog Try.f4 Rows.storeFlipsUptoRow.domain false) (((Rows.OpenSpec.upto Rows.storeFlipsSpec).at F).post enc Try.prog Try.f4 false true false false) := by
  refine returnsInHanded_of_cond (C := Try.checked) (s := Rows.OpenSpec.upto Rows.storeFlipsSpec) (k := Rows.uptoSmall) rfl own started (by kernel_rfl) Try.func4
    (OpenSpec.witness (enc := enc) (C := Try.checked) (s := Rows.OpenSpec.upto Rows.storeFlipsSpec) (k := Rows.uptoSmall) rfl false ⟨#[], #[.slice none 0 0, .int .i64 0, .int .u32 0], []⟩ 8 (by kernel_rfl) (by kernel_rfl) (by kernel_rfl)
      (x := ([.nil, .lit (.int .i64 0), .lit (.int .u32 0)], [], [])) (by kernel_rfl) rfl (by kernel_rfl)) ?_
  intro W base args ds gs before hval hW _ hk _
  exact contract H enc W base args ds gs before hval hW hk

theorem over : Rows.storeFlipsUptoRow.holds Try.pinned (Rows.OpenSpec.upto Rows.storeFlipsSpec) :=
  OpenClaim.holds_of_cond 4 Try.f4 rfl rfl rfl rfl rfl rfl rfl ⟨rfl, rfl, rfl, rfl, rfl⟩ rfl rfl rfl rfl rfl (by kernel_rfl) Try.func4 (by kernel_rfl)
    (of_decide_eq_true (by kernel_rfl)) (by unfold Func.isWrapper; first | (rw [if_pos (by decide +kernel)]; kernel_rfl) | (rw [if_neg (by decide +kernel)]; exact ⟨rfl, rfl⟩))
    (fun os started H enc _ F => lifted os started H enc F)

theorem proved : Rows.StoreFlipsUptoSaid :=
  over
end Go.Proofs.Ytjldecomhpngmaa.storeFlips
