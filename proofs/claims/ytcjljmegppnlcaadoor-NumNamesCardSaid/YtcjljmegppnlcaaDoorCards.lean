/-
  DERIVED. GIVEN WITH THE SEED: THE CARDS: each row of YtcjljmegppnlcaaDoorRows.lean that lists a variable, with what it lists TIED to the program's text (the seventh form; the later family's looks); each row that meets fmt, with fmt's text TOLD by the authors' own Lean function (tested against real Go, not proved from fmt's source: count such statements apart). THE CARD IS WHAT COUNTS. Prove the row's statement (the work); the ties are given (YtcjljmegppnlcaaDoorTie.lean); close each card by the builder's one call (the guide's Derived/Test/ToyasCard.lean, 'card_holds'). Laid BY PROGRAM, IN A SANDBOX (cutbox-door.mjs). By AI agents, Wed Nov 11 2026. No macro, syntax, notation, axiom, sorry.
-/
import Derived.Test.YtcjljmegppnlcaaDoorRows
import GoSem.ClaimSeven
namespace Go.Proofs.YtcjljmegppnlcaaDoor
namespace Rows

/-- THE TIED CARD OF 'mandrellaw01.NumNames'. -/
def numNamesCard : Claim7 := { stood := { row := numNamesRow, standIns := [], harness := (true, "271b8e651637538968a2d116f248524fce9844945c69ae079a2c7d01b033bd90"), looks := false }, kinds := [], alts := [], laidByText := true, laidKinds := [.data, .data, .data], laidTests := true, laidLooks := .later }
def NumNamesCardSaid : Prop := Claim7.holds Tryd.pinned (.plain (OpenSpec.ofChange numNamesSpec)) numNamesCard

/-- THE SECOND FORM's CARD OF 'mandrellaw01.NumNames'. -/
def numNamesUptoCard : Claim7 := { stood := { row := numNamesUptoRow, standIns := [], harness := (true, "271b8e651637538968a2d116f248524fce9844945c69ae079a2c7d01b033bd90"), looks := false }, kinds := [], alts := [], laidByText := true, laidKinds := [.data, .data, .data], laidTests := true, laidLooks := .later }
def NumNamesUptoCardSaid : Prop := Claim7.holds Tryd.pinned (.plain (OpenSpec.upto numNamesSpec)) numNamesUptoCard
end Rows
end Go.Proofs.YtcjljmegppnlcaaDoor
