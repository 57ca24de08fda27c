/- DriverNil answers true (it takes no argument; the statement asks that the listed variables be of bulk at most 1048576): the card DriverNilUptoCardSaid ties the tables and errors that the program lists to the text. -/
import Derived.Test.YtjefbjfifjjpmafGreatDoorCards
import Derived.Test.YtjefbjfifjjpmafGreatDoorTie
import Derived.Test.YtjefbjfifjjpmafGreatDoorRM
import Derived.Test.YtjefbjfifjjpmafGreatDoorRF5
import Derived.Test.YtjefbjfifjjpmafGreatDoorRG1
import Derived.Test.YtjefbjfifjjpmafGreatDoorRG2
namespace Go.Proofs.YtjefbjfifjjpmafGreatDoor.driverNil
open Go.ChangeShapes Go.WideShapes Go.ChangeAt Go.RowKit
set_option linter.unusedVariables false

theorem said : Rows.DriverNilUptoSaid :=
  OpenClaim.holds_of_cond 3 Tryz.f3 rfl rfl rfl rfl rfl rfl rfl ⟨rfl, rfl, rfl, rfl, rfl⟩ rfl rfl rfl rfl rfl (by kernel_rfl) Tryz.func3 closed
    (of_decide_eq_true (by kernel_rfl)) (by unfold Func.isWrapper; first | (rw [if_pos (by decide +kernel)]; kernel_rfl) | (rw [if_neg (by decide +kernel)]; exact ⟨rfl, rfl⟩))
    (fun os started H enc _ F => by rw [OpenClaim.pre_eq_preRow]; exact lifted os started H enc F)
/-- no parameter wants a stand-in; the program's own looks are on -/
theorem plain (f : FuncId) (fn : Func) (hf : Tryz.pinned.checked.prog.funcNamed "winnow/winnowlaw21.DriverNil" = some f) (hfn : Tryz.pinned.checked.prog.funcs[f]? = some fn) :
    true = Tryz.pinned.checked.prog.looks [] ∧ ∀ (j : Nat) t, fn.params[j]? = some t → Tryz.pinned.checked.prog.wantsStandIn t = false := by
  obtain rfl : f = 3 := Option.some.inj ((show Tryz.prog.funcNamed "winnow/winnowlaw21.DriverNil" = some 3 by kernel_rfl).symm.trans hf) |>.symm
  obtain rfl : fn = Tryz.f3 := (Option.some.inj (Tryz.func3.symm.trans hfn)).symm
  refine ⟨fact_looks, fun j t ht => ?_⟩
  rw [Tryz.params3] at ht
  simp at ht
theorem proved : Rows.DriverNilUptoCardSaid :=
  Claim7.holds_tied_plain_at .later [] _ _ _ _ said (fun _ h => by cases h) (by kernel_rfl) (fun _ h => by cases h) driverNilUpto_row_tie rfl ⟨rfl, rfl⟩ (by kernel_rfl) rfl plain fact_goes
end Go.Proofs.YtjefbjfifjjpmafGreatDoor.driverNil
