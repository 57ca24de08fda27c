/-
  DERIVED. GIVEN WITH THE SEED: THE CARDS: each row of YtjldecomhpngmaaDoorRows.lean that lists a variable, with what it lists TIED to the program's text (the seventh form; the later family's looks); each row that meets fmt, with fmt's text TOLD by the authors' own Lean function (tested against real Go, not proved from fmt's source: count such statements apart). THE CARD IS WHAT COUNTS. Prove the row's statement (the work); the ties are given (YtjldecomhpngmaaDoorTie.lean); close each card by the builder's one call (the guide's Derived/Test/ToyasCard.lean, 'card_holds'). Laid BY PROGRAM, IN A SANDBOX (cutbox-door.mjs). By AI agents, Wed Nov 11 2026. No macro, syntax, notation, axiom, sorry.
-/
import Derived.Test.YtjldecomhpngmaaDoorRows
import GoSem.ClaimSeven
namespace Go.Proofs.YtjldecomhpngmaaDoor
namespace Rows

/-- THE TIED CARD OF 'winnowlaw24.ChainSplits'. -/
def chainSplitsCard : Claim7 := { stood := { row := chainSplitsRow, standIns := [], harness := (true, "34f78825f1cca4afa22cbc221d47036feb436f107cdcbcd42c1d4a5c567e2daf"), looks := false }, kinds := [], alts := [], laidByText := true, laidKinds := [.data, .data, .data], laidTests := true, laidLooks := .later }
def ChainSplitsCardSaid : Prop := Claim7.holds Tryd.pinned (.plain (OpenSpec.ofChange chainSplitsSpec)) chainSplitsCard

/-- THE SECOND FORM's CARD OF 'winnowlaw24.ChainSplits'. -/
def chainSplitsUptoCard : Claim7 := { stood := { row := chainSplitsUptoRow, standIns := [], harness := (true, "34f78825f1cca4afa22cbc221d47036feb436f107cdcbcd42c1d4a5c567e2daf"), looks := false }, kinds := [], alts := [], laidByText := true, laidKinds := [.data, .data, .data], laidTests := true, laidLooks := .later }
def ChainSplitsUptoCardSaid : Prop := Claim7.holds Tryd.pinned (.plain (OpenSpec.upto chainSplitsSpec)) chainSplitsUptoCard
end Rows
end Go.Proofs.YtjldecomhpngmaaDoor
