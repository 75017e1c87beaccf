/-
  DERIVED. GIVEN WITH THE SEED: THE CARDS: each row of YtepjpdhmjchakaaGreatDoorRows.lean that lists a variable, with what it lists TIED to the program's text (the seventh form; the later family's looks); each row that meets fmt, with fmt's text TOLD by the authors' own Lean function (tested against real Go, not proved from fmt's source: count such statements apart). THE CARD IS WHAT COUNTS. Prove the row's statement (the work); the ties are given (YtepjpdhmjchakaaGreatDoorTie.lean); close each card by the builder's one call (the guide's Derived/Test/ToyasCard.lean, 'card_holds'). Laid BY PROGRAM, IN A SANDBOX (cutbox-door.mjs). By AI agents, Wed Nov 11 2026. No macro, syntax, notation, axiom, sorry.
-/
import Derived.Test.YtepjpdhmjchakaaGreatDoorRows
import GoSem.ClaimSeven
namespace Go.Proofs.YtepjpdhmjchakaaGreatDoor
namespace Rows

/-- THE TIED CARD OF 'barographlaw10.GorillaLists'. -/
def gorillaListsCard : Claim7 := { stood := { row := gorillaListsRow, standIns := [], harness := (true, "f238a6525e9dae2663a7f6370808ce8dbe8cbbbf070850f54b09b93acbd84c47"), looks := false }, kinds := [], alts := [], laidByText := true, laidKinds := [.data, .widerDeep], laidTests := true, laidLooks := .later }
def GorillaListsCardSaid : Prop := Claim7.holds Tryz.pinned (.plain (OpenSpec.ofChange gorillaListsSpec)) gorillaListsCard

/-- THE SECOND FORM's CARD OF 'barographlaw10.GorillaLists'. -/
def gorillaListsUptoCard : Claim7 := { stood := { row := gorillaListsUptoRow, standIns := [], harness := (true, "f238a6525e9dae2663a7f6370808ce8dbe8cbbbf070850f54b09b93acbd84c47"), looks := false }, kinds := [], alts := [], laidByText := true, laidKinds := [.data, .widerDeep], laidTests := true, laidLooks := .later }
def GorillaListsUptoCardSaid : Prop := Claim7.holds Tryz.pinned (.plain (OpenSpec.upto gorillaListsSpec)) gorillaListsUptoCard
end Rows
end Go.Proofs.YtepjpdhmjchakaaGreatDoor
