/-
  DERIVED. GIVEN WITH THE SEED: THE CARDS: each row of YtepjpdhmjchakaaDoorRows.lean that lists a variable, with what it lists TIED to the program's text (the seventh form; the later family's looks); each row that meets fmt, with fmt's text TOLD by the authors' own Lean function (tested against real Go, not proved from fmt's source: count such statements apart). THE CARD IS WHAT COUNTS. Prove the row's statement (the work); the ties are given (YtepjpdhmjchakaaDoorTie.lean); close each card by the builder's one call (the guide's Derived/Test/ToyasCard.lean, 'card_holds'). Laid BY PROGRAM, IN A SANDBOX (cutbox-door.mjs). By AI agents, Wed Nov 11 2026. No macro, syntax, notation, axiom, sorry.
-/
import Derived.Test.YtepjpdhmjchakaaDoorRows
import GoSem.ClaimSeven
namespace Go.Proofs.YtepjpdhmjchakaaDoor
namespace Rows

/-- THE TIED CARD OF 'barographlaw10.GorillaMakes'. -/
def gorillaMakesCard : Claim7 := { stood := { row := gorillaMakesRow, standIns := [], harness := (true, "5ed60add69ce5d7621398281b6f3043d088f7c892a725314b3645a821253ada9"), looks := false }, kinds := [], alts := [], laidByText := true, laidKinds := [.data, .widerDeep], laidTests := true, laidLooks := .later }
def GorillaMakesCardSaid : Prop := Claim7.holds Tryd.pinned (.plain (OpenSpec.ofChange gorillaMakesSpec)) gorillaMakesCard

/-- THE TIED CARD OF 'barographlaw10.GorillaOne'. -/
def gorillaOneCard : Claim7 := { stood := { row := gorillaOneRow, standIns := [], harness := (true, "5ed60add69ce5d7621398281b6f3043d088f7c892a725314b3645a821253ada9"), looks := false }, kinds := [], alts := [], laidByText := true, laidKinds := [.data], laidTests := true, laidLooks := .later }
def GorillaOneCardSaid : Prop := Claim7.holds Tryd.pinned (.plain (OpenSpec.ofChange gorillaOneSpec)) gorillaOneCard

/-- THE TIED CARD OF 'barographlaw10.GorillaReads'. -/
def gorillaReadsCard : Claim7 := { stood := { row := gorillaReadsRow, standIns := [], harness := (true, "5ed60add69ce5d7621398281b6f3043d088f7c892a725314b3645a821253ada9"), looks := false }, kinds := [], alts := [], laidByText := true, laidKinds := [.data, .widerDeep], laidTests := true, laidLooks := .later }
def GorillaReadsCardSaid : Prop := Claim7.holds Tryd.pinned (.plain (OpenSpec.ofChange gorillaReadsSpec)) gorillaReadsCard

/-- THE TIED CARD OF 'barographlaw10.GorillaBack'. -/
def gorillaBackCard : Claim7 := { stood := { row := gorillaBackRow, standIns := [], harness := (true, "5ed60add69ce5d7621398281b6f3043d088f7c892a725314b3645a821253ada9"), looks := false }, kinds := [], alts := [], laidByText := true, laidKinds := [.data], laidTests := true, laidLooks := .later }
def GorillaBackCardSaid : Prop := Claim7.holds Tryd.pinned (.plain (OpenSpec.ofChange gorillaBackSpec)) gorillaBackCard

/-- THE SECOND FORM's CARD OF 'barographlaw10.GorillaMakes'. -/
def gorillaMakesUptoCard : Claim7 := { stood := { row := gorillaMakesUptoRow, standIns := [], harness := (true, "5ed60add69ce5d7621398281b6f3043d088f7c892a725314b3645a821253ada9"), looks := false }, kinds := [], alts := [], laidByText := true, laidKinds := [.data, .widerDeep], laidTests := true, laidLooks := .later }
def GorillaMakesUptoCardSaid : Prop := Claim7.holds Tryd.pinned (.plain (OpenSpec.upto gorillaMakesSpec)) gorillaMakesUptoCard

/-- THE SECOND FORM's CARD OF 'barographlaw10.GorillaOne'. -/
def gorillaOneUptoCard : Claim7 := { stood := { row := gorillaOneUptoRow, standIns := [], harness := (true, "5ed60add69ce5d7621398281b6f3043d088f7c892a725314b3645a821253ada9"), looks := false }, kinds := [], alts := [], laidByText := true, laidKinds := [.data], laidTests := true, laidLooks := .later }
def GorillaOneUptoCardSaid : Prop := Claim7.holds Tryd.pinned (.plain (OpenSpec.upto gorillaOneSpec)) gorillaOneUptoCard

/-- THE SECOND FORM's CARD OF 'barographlaw10.GorillaReads'. -/
def gorillaReadsUptoCard : Claim7 := { stood := { row := gorillaReadsUptoRow, standIns := [], harness := (true, "5ed60add69ce5d7621398281b6f3043d088f7c892a725314b3645a821253ada9"), looks := false }, kinds := [], alts := [], laidByText := true, laidKinds := [.data, .widerDeep], laidTests := true, laidLooks := .later }
def GorillaReadsUptoCardSaid : Prop := Claim7.holds Tryd.pinned (.plain (OpenSpec.upto gorillaReadsSpec)) gorillaReadsUptoCard

/-- THE SECOND FORM's CARD OF 'barographlaw10.GorillaBack'. -/
def gorillaBackUptoCard : Claim7 := { stood := { row := gorillaBackUptoRow, standIns := [], harness := (true, "5ed60add69ce5d7621398281b6f3043d088f7c892a725314b3645a821253ada9"), looks := false }, kinds := [], alts := [], laidByText := true, laidKinds := [.data], laidTests := true, laidLooks := .later }
def GorillaBackUptoCardSaid : Prop := Claim7.holds Tryd.pinned (.plain (OpenSpec.upto gorillaBackSpec)) gorillaBackUptoCard
end Rows
end Go.Proofs.YtepjpdhmjchakaaDoor
