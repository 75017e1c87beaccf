/-
  DERIVED. GIVEN WITH THE SEED: THE CARDS: each row of YtoodbdjmbicaeaaGreatDoorRows.lean that lists a variable, with what it lists TIED to the program's text (the seventh form; the later family's looks); each row that meets fmt, with fmt's text TOLD by the authors' own Lean function (tested against real Go, not proved from fmt's source: count such statements apart). THE CARD IS WHAT COUNTS. Prove the row's statement (the work); the ties are given (YtoodbdjmbicaeaaGreatDoorTie.lean); close each card by the builder's one call (the guide's Derived/Test/ToyasCard.lean, 'card_holds'). Laid BY PROGRAM, IN A SANDBOX (cutbox-door.mjs). By AI agents, Wed Nov 11 2026. No macro, syntax, notation, axiom, sorry.
-/
import Derived.Test.YtoodbdjmbicaeaaGreatDoorRows
import GoSem.ClaimSeven
namespace Go.Proofs.YtoodbdjmbicaeaaGreatDoor
namespace Rows

/-- THE TIED CARD OF 'barographlaw03.NumPowers'. -/
def numPowersCard : Claim7 := { stood := { row := numPowersRow, standIns := [], harness := (true, "6d3614716c5c9f514f0b396848edf6209b74593b4cdedc019fb83858375d6ae8"), looks := false }, kinds := [], alts := [], laidByText := true, laidKinds := [.data], laidTests := true, laidLooks := .later }
def NumPowersCardSaid : Prop := Claim7.holds Tryz.pinned (.plain (OpenSpec.ofChange numPowersSpec)) numPowersCard

/-- THE SECOND FORM's CARD OF 'barographlaw03.NumPowers'. -/
def numPowersUptoCard : Claim7 := { stood := { row := numPowersUptoRow, standIns := [], harness := (true, "6d3614716c5c9f514f0b396848edf6209b74593b4cdedc019fb83858375d6ae8"), looks := false }, kinds := [], alts := [], laidByText := true, laidKinds := [.data], laidTests := true, laidLooks := .later }
def NumPowersUptoCardSaid : Prop := Claim7.holds Tryz.pinned (.plain (OpenSpec.upto numPowersSpec)) numPowersUptoCard
end Rows
end Go.Proofs.YtoodbdjmbicaeaaGreatDoor
