/-
  DERIVED. GIVEN WITH THE SEED: THE CARDS: each row of YtoegpmjoajipcaaGreatDoorRows.lean that lists a variable, with what it lists TIED to the program's text (the seventh form; the later family's looks); each row that meets fmt, with fmt's text TOLD by the authors' own Lean function (tested against real Go, not proved from fmt's source: count such statements apart). THE CARD IS WHAT COUNTS. Prove the row's statement (the work); the ties are given (YtoegpmjoajipcaaGreatDoorTie.lean); close each card by the builder's one call (the guide's Derived/Test/ToyasCard.lean, 'card_holds'). Laid BY PROGRAM, IN A SANDBOX (cutbox-door.mjs). By AI agents, Wed Nov 11 2026. No macro, syntax, notation, axiom, sorry.
-/
import Derived.Test.YtoegpmjoajipcaaGreatDoorRows
import GoSem.ClaimSeven
namespace Go.Proofs.YtoegpmjoajipcaaGreatDoor
namespace Rows

/-- THE TIED CARD OF 'winnowlaw23.InspectDumps'. -/
def inspectDumpsCard : Claim7 := { stood := { row := inspectDumpsRow, standIns := [], harness := (true, "66069f744ff1e505b75b12a93fa490562d523eaf375851bb6b6800f659ac0905"), looks := false }, kinds := [], alts := [], laidByText := true, laidKinds := [.data, .data, .data], laidTests := true, laidLooks := .later }
def InspectDumpsCardSaid : Prop := Claim7.holds Tryz.pinned (.plain (OpenSpec.ofChange inspectDumpsSpec)) inspectDumpsCard

/-- THE SECOND FORM's CARD OF 'winnowlaw23.InspectDumps'. -/
def inspectDumpsUptoCard : Claim7 := { stood := { row := inspectDumpsUptoRow, standIns := [], harness := (true, "66069f744ff1e505b75b12a93fa490562d523eaf375851bb6b6800f659ac0905"), looks := false }, kinds := [], alts := [], laidByText := true, laidKinds := [.data, .data, .data], laidTests := true, laidLooks := .later }
def InspectDumpsUptoCardSaid : Prop := Claim7.holds Tryz.pinned (.plain (OpenSpec.upto inspectDumpsSpec)) inspectDumpsUptoCard
end Rows
end Go.Proofs.YtoegpmjoajipcaaGreatDoor
