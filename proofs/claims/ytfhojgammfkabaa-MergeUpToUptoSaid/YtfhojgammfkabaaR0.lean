/- From a function's contract to its row: what a law leaves behind. -/
import Derived.Test.YtfhojgammfkabaaRows
import Derived.WalkKit
import Derived.ProofKit
import Derived.OpenShut
import Derived.JoinedCond
import Derived.Test.YtfhojgammfkabaaL0
namespace Go.Proofs.Ytfhojgammfkabaa
open Go.ChangeShapes Go.WideShapes Go.ChangeAt Go.RowKit

/-- what a call leaves behind that writes new blocks alone -/
theorem post_old {H : Type} {enc : TypeId × Value → H} {P : Program} {f : Func} {s : ChangeSpec} {apart fresh handsOn again : Bool} {W W' : World} {args : Array Value} {v : Value} {ds gs : List (DataW H)} {before pa pv : List MemPlace}
    (hW : DataW.Whole enc P f.params.toList s.vars apart W args.toList ds gs before)
    (hres : ∀ (b : Nat) (sp : Nat → Bool) (hd : Bool), DataW.TrodAll enc P W' b sp hd f.resultTypes.toList (v.resultList f.resultTypes.size) (s.fn H (ds ++ gs)).results [])
    (hargs : ∀ sp : Nat → Bool, (∀ p ∈ before, sp p.block = true) → DataW.TrodAll enc P W' 0 sp true f.params.toList args.toList (s.fn H (ds ++ gs)).args pa)
    (hvars : ∀ sp : Nat → Bool, (∀ p ∈ before, sp p.block = true) → DataW.TrodVars enc P W' sp s.vars (s.fn H (ds ++ gs)).vars pv)
    (hps : before = pa ++ pv) (hb : Below W.heap.size W W')
    (hok : ∀ (j : Nat) (t : TypeId) (r : Value), f.resultTypes[j]? = some t → (v.resultList f.resultTypes.size)[j]? = some r → Value.okWide P W' .any 0 t r) :
    s.post enc P f apart fresh handsOn again W args v W' := by
  have hold : ∀ p ∈ before, (fun b => decide (b < W.heap.size)) p.block = true := fun p hp => by simpa using hW.lt p hp
  have hlt : ∀ p ∈ before, p.block < W.heap.size := fun p hp => hW.lt p hp
  refine ⟨ds, gs, before, [], pa, pv, hW, hres _ _ _, hargs _ hold, hvars _ hold, World.keptBut_mono (fun p hp => ⟨hp, ?_⟩) (hb.frame (· ∈ before)), fun _ => ?_⟩
  · rw [hps, List.mem_append] at hp; exact Or.inr hp
  · obtain ⟨_, _, _, _, _, hz, hn⟩ := hW
    refine ⟨hok, _, _, ([] ++ pa) ++ pv, ⟨[] ++ pa, pv, trodAll_append (hargs _ (fun _ _ => rfl)) (hres _ _ _), hvars _ (fun _ _ => rfl), rfl, ?_, ?_⟩, ?_⟩
    · intro b off hp
      have hp' : MemPlace.cell b off ∈ before := by rw [hps]; simpa using hp
      rw [hb.frozen (p := ⟨b, off, none⟩) (hlt _ hp')]
      exact hz b off hp'
    · intro ha
      have := hn ha
      rw [hps] at this; simpa using this
    · intro p hp _
      rw [hps]; simpa using hp
theorem below_of {w w' : World} (h : Go.Vw.Mod (fun _ => False) w w') : Below w.heap.size w w' := ⟨h.os, h.tape, h.output, h.size, fun k hk => h.block k hk id⟩
/-- a law that answers true -/
theorem calls_true {P : Program} {f : FuncId} {args : List Go.Vw.AV} {w : World} (h : Go.Vw.callK P f args w (.one (.leaf .bool)) (fun b w' => b = true ∧ Go.Vw.Mod (fun _ => False) w w')) :
    Calls P f (args.map Go.Vw.AV.toV).toArray w fun e w' => e = .returned (.bool true) ∧ Below w.heap.size w w' := by
  refine Calls.mono h fun e w' he => ?_
  obtain ⟨l, rfl, hk⟩ := he
  cases l with
  | nil => exact hk.elim
  | cons x l =>
    simp only [Go.Vw.RT.kds, Go.Vw.Sh.kds, Go.Vw.app] at hk
    cases hx : x.as .bool with
    | none => rw [hx] at hk; exact hk.elim
    | some b =>
      rw [hx] at hk
      cases l with
      | cons y l => exact hk.elim
      | nil =>
        obtain ⟨hb, hM⟩ := hk
        subst hb
        refine ⟨?_, below_of hM⟩
        have := Go.Vw.LV.as_toV hx
        show Ending.returned x.toV = _
        rw [← this]; rfl
theorem own : ownKnob Try.prog.godebug = none := by kernel_rfl
end Go.Proofs.Ytfhojgammfkabaa
