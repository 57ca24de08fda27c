/-
  DERIVED. GIVEN WITH THE SEED: THE CARDS: each row of YtjefbjfifjjpmafGreatDoorRows.lean that lists a variable, with what it lists TIED to the program's text (the seventh form; the later family's looks); each row that meets fmt, with fmt's text TOLD by the authors' own Lean function (tested against real Go, not proved from fmt's source: count such statements apart). THE CARD IS WHAT COUNTS. Prove the row's statement (the work); the ties are given (YtjefbjfifjjpmafGreatDoorTie.lean); close each card by the builder's one call (the guide's Derived/Test/ToyasCard.lean, 'card_holds'). Laid BY PROGRAM, IN A SANDBOX (cutbox-door.mjs). By AI agents, Wed Nov 11 2026. No macro, syntax, notation, axiom, sorry.
-/
import Derived.Test.YtjefbjfifjjpmafGreatDoorRows
import GoSem.ClaimSeven
namespace Go.Proofs.YtjefbjfifjjpmafGreatDoor
namespace Rows

/-- THE TIED CARD OF 'winnowlaw21.DriverNil'. -/
def driverNilCard : Claim7 := { stood := { row := driverNilRow, standIns := [], harness := (true, "d7627861fd0f03d49677d2e07187d29c19a0cfb32e8cde46d9d0809c2b112d42"), looks := true }, kinds := [], alts := [], laidByText := true, laidKinds := [.data, .data, .data, .data, .sentinel, .sentinel], laidTests := true, laidLooks := .later }
def DriverNilCardSaid : Prop := Claim7.holds Tryz.pinned (.plain (OpenSpec.ofChange driverNilSpec)) driverNilCard

/-- THE SECOND FORM's CARD OF 'winnowlaw21.DriverNil'. -/
def driverNilUptoCard : Claim7 := { stood := { row := driverNilUptoRow, standIns := [], harness := (true, "d7627861fd0f03d49677d2e07187d29c19a0cfb32e8cde46d9d0809c2b112d42"), looks := true }, kinds := [], alts := [], laidByText := true, laidKinds := [.data, .data, .data, .data, .sentinel, .sentinel], laidTests := true, laidLooks := .later }
def DriverNilUptoCardSaid : Prop := Claim7.holds Tryz.pinned (.plain (OpenSpec.upto driverNilSpec)) driverNilUptoCard
end Rows
end Go.Proofs.YtjefbjfifjjpmafGreatDoor
