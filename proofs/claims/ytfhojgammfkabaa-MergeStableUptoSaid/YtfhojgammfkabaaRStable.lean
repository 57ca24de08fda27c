/- MergeStable answers true for every input whose reading is of bulk at most 1048576, and leaves its argument as it read: the statement MergeStableUptoSaid. -/
import Derived.Test.YtfhojgammfkabaaQ5
import Derived.Test.YtfhojgammfkabaaR3
namespace Go.Proofs.Ytfhojgammfkabaa.mergeStable
open Go.ChangeShapes Go.WideShapes Go.ChangeAt Go.RowKit
open Go.Vw (RdS callK LV AV Sl)
set_option linter.unusedVariables false

theorem lens_sum : ∀ (Ls : List (List Thing)), 3 * lens Ls Ls.length + 3 * Ls.length = sumF (fun L : List Thing => 3 * L.length + 3) Ls := by
  intro Ls
  have key : ∀ (pre Ls : List (List Thing)), lens (pre ++ Ls) (pre ++ Ls).length = lens pre pre.length + lens Ls Ls.length := by
    intro pre Ls
    have h1 : ∀ k, k ≤ pre.length → lens (pre ++ Ls) k = lens pre k := by
      intro k
      induction k with
      | zero => intro _; rfl
      | succ k ih => intro hk; rw [lens, lens, ih (by omega), List.getElem?_append_left (by omega)]
    have h2 : ∀ k, lens (pre ++ Ls) (pre.length + k) = lens pre pre.length + lens Ls k := by
      intro k
      induction k with
      | zero => exact h1 _ (Nat.le_refl _)
      | succ k ih => rw [← Nat.add_assoc, lens, ih, lens, List.getElem?_append_right (by omega), Nat.add_sub_cancel_left, Nat.add_assoc]
    rw [List.length_append]; exact h2 _
  induction Ls with
  | nil => rfl
  | cons L r ih =>
    have h := key [L] r
    have h3 : lens [L] [L].length = L.length := by simp [lens]
    rw [h3] at h
    rw [show L :: r = [L] ++ r from rfl, h, ← show L :: r = [L] ++ r from rfl, sumF, ← ih]
    simp; omega
set_option maxRecDepth 100000 in
theorem contract (H : Type) (enc : TypeId × Value → H) (W : World) (base : Nat) (args : Array Value) (ds gs : List (DataW H)) (before : List MemPlace)
    (hval : ∀ (j : Nat) t v, Try.f4.params[j]? = some t → args[j]? = some v → Value.okWide Try.prog W .any base t v)
    (hW : DataW.Whole enc Try.prog Try.f4.params.toList Rows.mergeStableSpec.vars false W args.toList ds gs before) (hk : Rows.uptoSmall H (ds ++ gs) = true) :
    Calls Try.prog 4 args W fun e W' => ∃ v, e = .returned v ∧ Rows.mergeStableSpec.post enc Try.prog Try.f4 false true false false W args v W' := by
  have hW' := hW
  obtain ⟨p, q, hA0, hV, rfl, hfz, hnd⟩ := hW
  have hA : DataW.TrodAll enc Try.prog W 0 (fun _ => true) true Try.f4.params.toList args.toList ds p := hA0
  rw [Try.params4] at hA hval
  obtain ⟨v0, d0, rfl, rfl, h0⟩ := trodAll_one hA
  obtain ⟨rfl, rfl⟩ := trodVars_none hV
  obtain ⟨a0, len, cap, rfl⟩ := okWide_slice Try.underlying41 (hval 0 41 v0 rfl rfl)
  obtain ⟨fuel, h0⟩ := h0
  obtain ⟨s, ys, Ls, hcs, hr, hlt, hlen, hs, hsum⟩ := open_sources h0
  have hb := bound hk
  simp only [List.append_nil, Rows.uptoBulkAll] at hb
  have hs3 := lens_sum Ls
  have hsum : sumF (fun L : List Thing => 3 * L.length + 3) Ls + 1 ≤ Rows.uptoBulk d0 := hsum
  have hcs' : Value.slice a0 len cap = (LV.sl s).toV := by simpa [Value.cells] using hcs
  rw [hcs'] at hW' ⊢
  refine Calls.mono (calls_true (args := [.leaf (.sl s)]) (stable_walk (Ls := Ls) hr hlen (fun i y L h1 h2 => (hs i y L h1 h2).rd) (by omega) (by omega) fun w' hM => ⟨rfl, hM⟩)) fun e W' ⟨he, hg⟩ => ?_
  subst he
  exact ⟨_, rfl, post_law hW' rfl (by kernel_rfl) rfl rfl rfl (by kernel_rfl) hg⟩
set_option maxRecDepth 100000 in
theorem lifted (os : Os) (started : os.Started) (H : Type) (enc : TypeId × Value → H) (F : Stop.Interp) :
    ReturnsInHanded {} Try.checked os 4 .any ((Rows.OpenSpec.upto Rows.mergeStableSpec).pre6 enc Try.prog Try.f4 Rows.mergeStableUptoRow.domain false) (((Rows.OpenSpec.upto Rows.mergeStableSpec).at F).post enc Try.prog Try.f4 false true false false) := by
  refine returnsInHanded_of_cond (C := Try.checked) (s := Rows.OpenSpec.upto Rows.mergeStableSpec) (k := Rows.uptoSmall) rfl own started (by kernel_rfl) Try.func4
    (OpenSpec.witness (enc := enc) (C := Try.checked) (s := Rows.OpenSpec.upto Rows.mergeStableSpec) (k := Rows.uptoSmall) rfl false ⟨#[], #[.slice none 0 0], []⟩ 8 (by kernel_rfl) (by kernel_rfl) (by kernel_rfl)
      (x := ([.nil], [], [])) (by kernel_rfl) rfl (by kernel_rfl)) ?_
  intro W base args ds gs before hval hW _ hk _
  exact contract H enc W base args ds gs before hval hW hk

theorem over : Rows.mergeStableUptoRow.holds Try.pinned (Rows.OpenSpec.upto Rows.mergeStableSpec) :=
  OpenClaim.holds_of_cond 4 Try.f4 rfl rfl rfl rfl rfl rfl rfl ⟨rfl, rfl, rfl, rfl, rfl⟩ rfl rfl rfl rfl rfl (by kernel_rfl) Try.func4 (by kernel_rfl)
    (of_decide_eq_true (by kernel_rfl)) (by unfold Func.isWrapper; first | (rw [if_pos (by decide +kernel)]; kernel_rfl) | (rw [if_neg (by decide +kernel)]; exact ⟨rfl, rfl⟩))
    (fun os started H enc _ F => lifted os started H enc F)

theorem proved : Rows.MergeStableUptoSaid :=
  over
end Go.Proofs.Ytfhojgammfkabaa.mergeStable
