/-
  DERIVED. GIVEN WITH THE SEED: THE CARDS: each row of YtkifmnelmmogfaaDoorRows.lean that lists a variable, with what it lists TIED to the program's text (the seventh form; the later family's looks); each row that meets fmt, with fmt's text TOLD by the authors' own Lean function (tested against real Go, not proved from fmt's source: count such statements apart). THE CARD IS WHAT COUNTS. Prove the row's statement (the work); the ties are given (YtkifmnelmmogfaaDoorTie.lean); close each card by the builder's one call (the guide's Derived/Test/ToyasCard.lean, 'card_holds'). Laid BY PROGRAM, IN A SANDBOX (cutbox-door.mjs). By AI agents, Wed Nov 11 2026. No macro, syntax, notation, axiom, sorry.
-/
import Derived.Test.YtkifmnelmmogfaaDoorRows
import GoSem.ClaimSeven
namespace Go.Proofs.YtkifmnelmmogfaaDoor
namespace Rows

/-- THE TIED CARD OF 'ragpickerlaw.HandlePlays'. -/
def handlePlaysCard : Claim7 := { stood := { row := handlePlaysRow, standIns := [], harness := (true, "00b5ff7b67e26991bd8ca126e1e93a1725b9ba2bb1d5d0295d5333dd0af862b9"), looks := true }, kinds := [], alts := [], laidByText := true, laidKinds := [.handle], laidTests := true, laidLooks := .later }
def HandlePlaysCardSaid : Prop := Claim7.holds Tryd.pinned (.plain (OpenSpec.ofChange handlePlaysSpec)) handlePlaysCard

/-- THE SECOND FORM's CARD OF 'ragpickerlaw.HandlePlays'. -/
def handlePlaysUptoCard : Claim7 := { stood := { row := handlePlaysUptoRow, standIns := [], harness := (true, "00b5ff7b67e26991bd8ca126e1e93a1725b9ba2bb1d5d0295d5333dd0af862b9"), looks := true }, kinds := [], alts := [], laidByText := true, laidKinds := [.handle], laidTests := true, laidLooks := .later }
def HandlePlaysUptoCardSaid : Prop := Claim7.holds Tryd.pinned (.plain (OpenSpec.upto handlePlaysSpec)) handlePlaysUptoCard
end Rows
end Go.Proofs.YtkifmnelmmogfaaDoor
