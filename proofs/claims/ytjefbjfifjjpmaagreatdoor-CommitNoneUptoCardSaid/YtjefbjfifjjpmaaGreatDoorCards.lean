/-
  DERIVED. GIVEN WITH THE SEED: THE CARDS: each row of YtjefbjfifjjpmaaGreatDoorRows.lean that lists a variable, with what it lists TIED to the program's text (the seventh form; the later family's looks); each row that meets fmt, with fmt's text TOLD by the authors' own Lean function (tested against real Go, not proved from fmt's source: count such statements apart). THE CARD IS WHAT COUNTS. Prove the row's statement (the work); the ties are given (YtjefbjfifjjpmaaGreatDoorTie.lean); close each card by the builder's one call (the guide's Derived/Test/ToyasCard.lean, 'card_holds'). Laid BY PROGRAM, IN A SANDBOX (cutbox-door.mjs). By AI agents, Wed Nov 11 2026. No macro, syntax, notation, axiom, sorry.
-/
import Derived.Test.YtjefbjfifjjpmaaGreatDoorRows
import GoSem.ClaimSeven
namespace Go.Proofs.YtjefbjfifjjpmaaGreatDoor
namespace Rows

/-- THE TIED CARD OF 'winnowlaw20.CommitNone'. -/
def commitNoneCard : Claim7 := { stood := { row := commitNoneRow, standIns := [], harness := (true, "ab6207bd7f4ccdaf077ca121039fb749227ddbe2b652e3319c320e98ce89a550"), looks := false }, kinds := [], alts := [], laidByText := true, laidKinds := [.data, .data, .data], laidTests := true, laidLooks := .later }
def CommitNoneCardSaid : Prop := Claim7.holds Tryz.pinned (.plain (OpenSpec.ofChange commitNoneSpec)) commitNoneCard

/-- THE SECOND FORM's CARD OF 'winnowlaw20.CommitNone'. -/
def commitNoneUptoCard : Claim7 := { stood := { row := commitNoneUptoRow, standIns := [], harness := (true, "ab6207bd7f4ccdaf077ca121039fb749227ddbe2b652e3319c320e98ce89a550"), looks := false }, kinds := [], alts := [], laidByText := true, laidKinds := [.data, .data, .data], laidTests := true, laidLooks := .later }
def CommitNoneUptoCardSaid : Prop := Claim7.holds Tryz.pinned (.plain (OpenSpec.upto commitNoneSpec)) commitNoneUptoCard
end Rows
end Go.Proofs.YtjefbjfifjjpmaaGreatDoor
