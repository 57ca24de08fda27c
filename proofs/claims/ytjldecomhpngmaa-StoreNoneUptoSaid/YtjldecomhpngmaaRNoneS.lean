/- StoreNone answers true for every input whose reading is of bulk at most 1048576, and leaves its arguments as they read: the statement StoreNoneUptoSaid. -/
import Derived.Test.YtjldecomhpngmaaVS
import Derived.Test.YtjldecomhpngmaaRB
namespace Go.Proofs.Ytjldecomhpngmaa.storeNone
open Go.ChangeShapes Go.WideShapes Go.ChangeAt Go.RowKit
open Go.Vw (RdS callK LV AV Sl)
set_option linter.unusedVariables false

set_option maxRecDepth 100000 in
theorem contract (H : Type) (enc : TypeId × Value → H) (W : World) (base : Nat) (args : Array Value) (ds gs : List (DataW H)) (before : List MemPlace)
    (hval : ∀ (j : Nat) t v, Try.f7.params[j]? = some t → args[j]? = some v → Value.okWide Try.prog W .any base t v)
    (hW : DataW.Whole enc Try.prog Try.f7.params.toList Rows.storeNoneSpec.vars false W args.toList ds gs before) (hk : Rows.uptoSmall H (ds ++ gs) = true) :
    Calls Try.prog 7 args W fun e W' => ∃ v, e = .returned v ∧ Rows.storeNoneSpec.post enc Try.prog Try.f7 false true false false W args v W' := by
  have hW' := hW
  obtain ⟨p, q, hA0, hV, rfl, hfz, hnd⟩ := hW
  have hA : DataW.TrodAll enc Try.prog W 0 (fun _ => true) true Try.f7.params.toList args.toList ds p := hA0
  rw [Try.params7] at hA hval
  obtain ⟨v0, vs0, d0, ds0, p0, q0, hargs, rfl, rfl, h0, r0⟩ := trodAll_cons hA
  obtain ⟨rfl, rfl, rfl⟩ := trodAll_nil r0
  obtain rfl : args = #[v0] := by cases args; simp_all
  obtain ⟨rfl, rfl⟩ := trodVars_none hV
  have hb := bound hk
  simp only [List.append_nil, Rows.uptoBulkAll] at hb
  obtain ⟨c0, rfl, _⟩ := okWide_struct Try.underlying62 (hval 0 62 v0 rfl rfl)
  obtain ⟨fuel0, h0⟩ := h0
  obtain ⟨op0, n0, N0, j0, s0, k0, l0, hcs0, hr0, hlt0, hok0, hN0, hm0, hsum0⟩ := open_step h0
  have hsum0 : l0.length + 1 ≤ Rows.uptoBulk d0 := hsum0
  have hcs0 : Value.agg c0 = (AV.agg [.int .i64 op0, .str n0, .int .i64 N0, .int .i64 j0, .sl s0, .int .u32 k0]).toV := by
    have hx : c0.toList = [LV.toV (.int .i64 op0), LV.toV (.str n0), LV.toV (.int .i64 N0), LV.toV (.int .i64 j0), LV.toV (.sl s0), LV.toV (.int .u32 k0)] := hcs0
    show Value.agg c0 = Value.agg (List.toArray _)
    congr 1
    rw [← Array.toArray_toList (xs := c0), hx]; rfl
  rw [hcs0] at hW' ⊢
  refine Calls.mono (calls_true (args := [.agg [.int .i64 op0, .str n0, .int .i64 N0, .int .i64 j0, .sl s0, .int .u32 k0]]) (none_walk hr0 (by omega) hok0 hN0 hm0.1 hm0.2 fun w' hM => ⟨rfl, hM⟩)) fun e W' ⟨he, hg⟩ => ?_
  subst he
  exact ⟨_, rfl, post_law hW' rfl (by kernel_rfl) rfl rfl rfl (by kernel_rfl) hg⟩
set_option maxRecDepth 100000 in
theorem lifted (os : Os) (started : os.Started) (H : Type) (enc : TypeId × Value → H) (F : Stop.Interp) :
    ReturnsInHanded {} Try.checked os 7 .any ((Rows.OpenSpec.upto Rows.storeNoneSpec).pre6 enc Try.prog Try.f7 Rows.storeNoneUptoRow.domain false) (((Rows.OpenSpec.upto Rows.storeNoneSpec).at F).post enc Try.prog Try.f7 false true false false) := by
  refine returnsInHanded_of_cond (C := Try.checked) (s := Rows.OpenSpec.upto Rows.storeNoneSpec) (k := Rows.uptoSmall) rfl own started (by kernel_rfl) Try.func7
    (OpenSpec.witness (enc := enc) (C := Try.checked) (s := Rows.OpenSpec.upto Rows.storeNoneSpec) (k := Rows.uptoSmall) rfl false ⟨#[], #[.agg #[.int .i64 0, .string ⟨#[]⟩, .int .i64 0, .int .i64 0, .slice none 0 0, .int .u32 0]], []⟩ 8 (by kernel_rfl) (by kernel_rfl) (by kernel_rfl)
      (x := ([.agg [.lit (.int .i64 0), .lit (.string []), .lit (.int .i64 0), .lit (.int .i64 0), .nil, .lit (.int .u32 0)]], [], [])) (by kernel_rfl) rfl (by kernel_rfl)) ?_
  intro W base args ds gs before hval hW _ hk _
  exact contract H enc W base args ds gs before hval hW hk

theorem over : Rows.storeNoneUptoRow.holds Try.pinned (Rows.OpenSpec.upto Rows.storeNoneSpec) :=
  OpenClaim.holds_of_cond 7 Try.f7 rfl rfl rfl rfl rfl rfl rfl ⟨rfl, rfl, rfl, rfl, rfl⟩ rfl rfl rfl rfl rfl (by kernel_rfl) Try.func7 (by kernel_rfl)
    (of_decide_eq_true (by kernel_rfl)) (by unfold Func.isWrapper; first | (rw [if_pos (by decide +kernel)]; kernel_rfl) | (rw [if_neg (by decide +kernel)]; exact ⟨rfl, rfl⟩))
    (fun os started H enc _ F => lifted os started H enc F)

theorem proved : Rows.StoreNoneUptoSaid :=
  over
end Go.Proofs.Ytjldecomhpngmaa.storeNone
