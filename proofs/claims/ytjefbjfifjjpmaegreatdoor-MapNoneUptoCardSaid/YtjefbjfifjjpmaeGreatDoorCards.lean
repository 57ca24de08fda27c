/-
  DERIVED. GIVEN WITH THE SEED: THE CARDS: each row of YtjefbjfifjjpmaeGreatDoorRows.lean that lists a variable, with what it lists TIED to the program's text (the seventh form; the later family's looks); each row that meets fmt, with fmt's text TOLD by the authors' own Lean function (tested against real Go, not proved from fmt's source: count such statements apart). THE CARD IS WHAT COUNTS. Prove the row's statement (the work); the ties are given (YtjefbjfifjjpmaeGreatDoorTie.lean); close each card by the builder's one call (the guide's Derived/Test/ToyasCard.lean, 'card_holds'). Laid BY PROGRAM, IN A SANDBOX (cutbox-door.mjs). By AI agents, Wed Nov 11 2026. No macro, syntax, notation, axiom, sorry.
-/
import Derived.Test.YtjefbjfifjjpmaeGreatDoorRows
import GoSem.ClaimSeven
namespace Go.Proofs.YtjefbjfifjjpmaeGreatDoor
namespace Rows

/-- THE TIED CARD OF 'winnowlaw17.MapNone'. -/
def mapNoneCard : Claim7 := { stood := { row := mapNoneRow, standIns := [], harness := (true, "305658ad97112a8614f970d83cb33c9c6f5d5270a9917409e5b3baac410c30d5"), looks := true }, kinds := [], alts := [], laidByText := true, laidKinds := [.data, .data, .data, .sentinel, .sentinel], laidTests := true, laidLooks := .later }
def MapNoneCardSaid : Prop := Claim7.holds Tryz.pinned (.plain (OpenSpec.ofChange mapNoneSpec)) mapNoneCard

/-- THE SECOND FORM's CARD OF 'winnowlaw17.MapNone'. -/
def mapNoneUptoCard : Claim7 := { stood := { row := mapNoneUptoRow, standIns := [], harness := (true, "305658ad97112a8614f970d83cb33c9c6f5d5270a9917409e5b3baac410c30d5"), looks := true }, kinds := [], alts := [], laidByText := true, laidKinds := [.data, .data, .data, .sentinel, .sentinel], laidTests := true, laidLooks := .later }
def MapNoneUptoCardSaid : Prop := Claim7.holds Tryz.pinned (.plain (OpenSpec.upto mapNoneSpec)) mapNoneUptoCard
end Rows
end Go.Proofs.YtjefbjfifjjpmaeGreatDoor
