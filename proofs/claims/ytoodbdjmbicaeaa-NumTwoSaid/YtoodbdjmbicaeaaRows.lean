/-
  No cell of these rows narrows 'for every input' (looked for: loops, veiled, ifaces, maps, wideKeys, modest, calm, conditions, laid).
  DERIVED. THE GIVEN ROWS OF THIS SEAT. 9 by the template 'for every input the law returns true; each argument reads behind the call as it read before'; 0 by the template 'total and deterministic' (their statements: YtoodbdjmbicaeaaTotals.lean).
  GIVEN WITH THE SEED: the statements are not yours to turn. If you find one false, say at which input.
  Laid BY PROGRAM, IN A SANDBOX (cutbox-rows.mjs): the forced cells as the released guide's own fill.sh prints them over the translation a13aa2b2c3834ece… (all of the seat's roots in one cut). By AI agents, Wed Nov 11 2026. No macro, syntax, notation, axiom, sorry.
-/
import Derived.Test.YtoodbdjmbicaeaaChecked
import GoSem.Claim
import GoSem.ClaimJoined
import GoSem.ClaimMapViews
import Derived.JoinedTies
import Derived.KernelRfl
namespace Go.Proofs.Ytoodbdjmbicaeaa
/- THE CELL 'sum', in the pinned program and in every row, IS THE sha256 OF THE DUMP (.gsa) THAT YtoodbdjmbicaeaaProg.lean LOADS. Nothing in Lean hashes anything: it is a label: what it is worth is what the hold of that sum in a sandbox is worth. -/
noncomputable def Try.pinned : Pinned := { name := "ytoodbdjmbicaeaa", sum := "a13aa2b2c3834ecef80a40173dbbabc6a577b0ce474f2b3cae4f2e9b1ee5bd83", checked := Try.checked }
namespace Rows
def none {H : Type} : Left H := { results := [], args := [] }

/-- 'barographlaw03.NumRises': WHATEVER THE INPUT: true; the input reads as it did. -/
def numRisesSpec : ChangeSpec := { name := "numRises", fn := fun _ => fun
  | [d1, d2, d3] => { results := [.lit (.bool true)], args := [d1, d2, d3] }
  | _ => none }
def numRisesRow : OpenClaim := { program := "ytoodbdjmbicaeaa", sum := "a13aa2b2c3834ecef80a40173dbbabc6a577b0ce474f2b3cae4f2e9b1ee5bd83", func := "barograph/barographlaw03.NumRises", spec := "numRises", inPlace := ["math.Float64frombits", "math.Float64bits", "math.archTrunc", "math.sqrt"], apart := false }
def NumRisesSaid : Prop := numRisesRow.holds Try.pinned (OpenSpec.ofChange numRisesSpec)

/-- ITS FALSE NEIGHBOUR: 'it returns false'. Refute it at one input. -/
def numRisesWrong : ChangeSpec := { name := "numRises", fn := fun _ => fun
  | [d1, d2, d3] => { results := [.lit (.bool false)], args := [d1, d2, d3] }
  | _ => none }
def NumRisesWrongFalsely : Prop := numRisesRow.holds Try.pinned (OpenSpec.ofChange numRisesWrong)

/-- 'barographlaw03.NumRing': WHATEVER THE INPUT: true; the input reads as it did. -/
def numRingSpec : ChangeSpec := { name := "numRing", fn := fun _ => fun
  | [d1, d2] => { results := [.lit (.bool true)], args := [d1, d2] }
  | _ => none }
def numRingRow : OpenClaim := { program := "ytoodbdjmbicaeaa", sum := "a13aa2b2c3834ecef80a40173dbbabc6a577b0ce474f2b3cae4f2e9b1ee5bd83", func := "barograph/barographlaw03.NumRing", spec := "numRing", inPlace := ["math.Float64frombits", "math.Float64bits", "math.archTrunc", "math.sqrt"], apart := false }
def NumRingSaid : Prop := numRingRow.holds Try.pinned (OpenSpec.ofChange numRingSpec)

/-- ITS FALSE NEIGHBOUR: 'it returns false'. Refute it at one input. -/
def numRingWrong : ChangeSpec := { name := "numRing", fn := fun _ => fun
  | [d1, d2] => { results := [.lit (.bool false)], args := [d1, d2] }
  | _ => none }
def NumRingWrongFalsely : Prop := numRingRow.holds Try.pinned (OpenSpec.ofChange numRingWrong)

/-- 'barographlaw03.NumSums': WHATEVER THE INPUT: true; the input reads as it did. -/
def numSumsSpec : ChangeSpec := { name := "numSums", fn := fun _ => fun
  | [d] => { results := [.lit (.bool true)], args := [d] }
  | _ => none }
def numSumsRow : OpenClaim := { program := "ytoodbdjmbicaeaa", sum := "a13aa2b2c3834ecef80a40173dbbabc6a577b0ce474f2b3cae4f2e9b1ee5bd83", func := "barograph/barographlaw03.NumSums", spec := "numSums", inPlace := ["math.Float64bits", "math.Float64frombits", "math.archTrunc", "math.sqrt"], apart := false }
def NumSumsSaid : Prop := numSumsRow.holds Try.pinned (OpenSpec.ofChange numSumsSpec)

/-- ITS FALSE NEIGHBOUR: 'it returns false'. Refute it at one input. -/
def numSumsWrong : ChangeSpec := { name := "numSums", fn := fun _ => fun
  | [d] => { results := [.lit (.bool false)], args := [d] }
  | _ => none }
def NumSumsWrongFalsely : Prop := numSumsRow.holds Try.pinned (OpenSpec.ofChange numSumsWrong)

/-- 'barographlaw03.NumInts': WHATEVER THE INPUT: true; the input reads as it did. -/
def numIntsSpec : ChangeSpec := { name := "numInts", fn := fun _ => fun
  | [d] => { results := [.lit (.bool true)], args := [d] }
  | _ => none }
def numIntsRow : OpenClaim := { program := "ytoodbdjmbicaeaa", sum := "a13aa2b2c3834ecef80a40173dbbabc6a577b0ce474f2b3cae4f2e9b1ee5bd83", func := "barograph/barographlaw03.NumInts", spec := "numInts", inPlace := ["math.Float64bits", "math.Float64frombits", "math.archTrunc", "math.sqrt"], apart := false }
def NumIntsSaid : Prop := numIntsRow.holds Try.pinned (OpenSpec.ofChange numIntsSpec)

/-- ITS FALSE NEIGHBOUR: 'it returns false'. Refute it at one input. -/
def numIntsWrong : ChangeSpec := { name := "numInts", fn := fun _ => fun
  | [d] => { results := [.lit (.bool false)], args := [d] }
  | _ => none }
def NumIntsWrongFalsely : Prop := numIntsRow.holds Try.pinned (OpenSpec.ofChange numIntsWrong)

/-- 'barographlaw03.NumOrder': WHATEVER THE INPUT: true; the input reads as it did. -/
def numOrderSpec : ChangeSpec := { name := "numOrder", fn := fun _ => fun
  | [d1, d2, d3] => { results := [.lit (.bool true)], args := [d1, d2, d3] }
  | _ => none }
def numOrderRow : OpenClaim := { program := "ytoodbdjmbicaeaa", sum := "a13aa2b2c3834ecef80a40173dbbabc6a577b0ce474f2b3cae4f2e9b1ee5bd83", func := "barograph/barographlaw03.NumOrder", spec := "numOrder", inPlace := ["math.Float64frombits", "math.Float64bits", "math.archTrunc", "math.sqrt"], apart := false }
def NumOrderSaid : Prop := numOrderRow.holds Try.pinned (OpenSpec.ofChange numOrderSpec)

/-- ITS FALSE NEIGHBOUR: 'it returns false'. Refute it at one input. -/
def numOrderWrong : ChangeSpec := { name := "numOrder", fn := fun _ => fun
  | [d1, d2, d3] => { results := [.lit (.bool false)], args := [d1, d2, d3] }
  | _ => none }
def NumOrderWrongFalsely : Prop := numOrderRow.holds Try.pinned (OpenSpec.ofChange numOrderWrong)

/-- 'barographlaw03.NumSteps': WHATEVER THE INPUT: true; the input reads as it did. -/
def numStepsSpec : ChangeSpec := { name := "numSteps", fn := fun _ => fun
  | [d] => { results := [.lit (.bool true)], args := [d] }
  | _ => none }
def numStepsRow : OpenClaim := { program := "ytoodbdjmbicaeaa", sum := "a13aa2b2c3834ecef80a40173dbbabc6a577b0ce474f2b3cae4f2e9b1ee5bd83", func := "barograph/barographlaw03.NumSteps", spec := "numSteps", inPlace := ["math.Float64frombits", "math.archFloor", "math.Float64bits", "math.archTrunc", "math.archCeil", "math.sqrt"], apart := false }
def NumStepsSaid : Prop := numStepsRow.holds Try.pinned (OpenSpec.ofChange numStepsSpec)

/-- ITS FALSE NEIGHBOUR: 'it returns false'. Refute it at one input. -/
def numStepsWrong : ChangeSpec := { name := "numSteps", fn := fun _ => fun
  | [d] => { results := [.lit (.bool false)], args := [d] }
  | _ => none }
def NumStepsWrongFalsely : Prop := numStepsRow.holds Try.pinned (OpenSpec.ofChange numStepsWrong)

/-- 'barographlaw03.NumOne': WHATEVER THE INPUT: true; the input reads as it did. -/
def numOneSpec : ChangeSpec := { name := "numOne", fn := fun _ => fun
  | [d] => { results := [.lit (.bool true)], args := [d] }
  | _ => none }
def numOneRow : OpenClaim := { program := "ytoodbdjmbicaeaa", sum := "a13aa2b2c3834ecef80a40173dbbabc6a577b0ce474f2b3cae4f2e9b1ee5bd83", func := "barograph/barographlaw03.NumOne", spec := "numOne", inPlace := ["math.Float64frombits", "math.Float64bits", "math.sqrt", "math.archFloor", "math.archTrunc", "math.archCeil"], apart := false }
def NumOneSaid : Prop := numOneRow.holds Try.pinned (OpenSpec.ofChange numOneSpec)

/-- ITS FALSE NEIGHBOUR: 'it returns false'. Refute it at one input. -/
def numOneWrong : ChangeSpec := { name := "numOne", fn := fun _ => fun
  | [d] => { results := [.lit (.bool false)], args := [d] }
  | _ => none }
def NumOneWrongFalsely : Prop := numOneRow.holds Try.pinned (OpenSpec.ofChange numOneWrong)

/-- 'barographlaw03.NumRest': WHATEVER THE INPUT: true; the input reads as it did. -/
def numRestSpec : ChangeSpec := { name := "numRest", fn := fun _ => fun
  | [d1, d2] => { results := [.lit (.bool true)], args := [d1, d2] }
  | _ => none }
def numRestRow : OpenClaim := { program := "ytoodbdjmbicaeaa", sum := "a13aa2b2c3834ecef80a40173dbbabc6a577b0ce474f2b3cae4f2e9b1ee5bd83", func := "barograph/barographlaw03.NumRest", spec := "numRest", inPlace := ["math.Float64frombits", "math.Float64bits", "math.archTrunc", "math.sqrt"], apart := false }
def NumRestSaid : Prop := numRestRow.holds Try.pinned (OpenSpec.ofChange numRestSpec)

/-- ITS FALSE NEIGHBOUR: 'it returns false'. Refute it at one input. -/
def numRestWrong : ChangeSpec := { name := "numRest", fn := fun _ => fun
  | [d1, d2] => { results := [.lit (.bool false)], args := [d1, d2] }
  | _ => none }
def NumRestWrongFalsely : Prop := numRestRow.holds Try.pinned (OpenSpec.ofChange numRestWrong)

/-- 'barographlaw03.NumTwo': WHATEVER THE INPUT: true; the input reads as it did. -/
def numTwoSpec : ChangeSpec := { name := "numTwo", fn := fun _ => fun
  | [d1, d2] => { results := [.lit (.bool true)], args := [d1, d2] }
  | _ => none }
def numTwoRow : OpenClaim := { program := "ytoodbdjmbicaeaa", sum := "a13aa2b2c3834ecef80a40173dbbabc6a577b0ce474f2b3cae4f2e9b1ee5bd83", func := "barograph/barographlaw03.NumTwo", spec := "numTwo", inPlace := ["math.Float64frombits", "math.Float64bits", "math.archFloor", "math.archTrunc", "math.sqrt"], apart := false }
def NumTwoSaid : Prop := numTwoRow.holds Try.pinned (OpenSpec.ofChange numTwoSpec)

/-- ITS FALSE NEIGHBOUR: 'it returns false'. Refute it at one input. -/
def numTwoWrong : ChangeSpec := { name := "numTwo", fn := fun _ => fun
  | [d1, d2] => { results := [.lit (.bool false)], args := [d1, d2] }
  | _ => none }
def NumTwoWrongFalsely : Prop := numTwoRow.holds Try.pinned (OpenSpec.ofChange numTwoWrong)

/- THE SECOND FORM. 'bulk': how many values and letters a reading holds, each counted each time it is reached (what is shared counts as often as it is met; a slice's spare places count too). A statement '..UptoSaid' is the law's where the arguments, and the package variables that the reading takes, are together of bulk at most 1048576: NARROWER than '..Said'. Prove '..Said' where nothing that the law and all that it calls make is longer than what came in: it says more and counts as full. Else prove '..UptoSaid'. A law counts once. -/
mutual
def uptoBulk {H : Type} : DataW H → Nat
  | .lit (.string bytes) => bytes.length + 1
  | .lit _ => 1
  | .nil => 1
  | .ptr d => uptoBulk d + 1
  | .slice elems spare => uptoBulkAll elems + uptoBulkAll spare + 1
  | .agg parts => uptoBulkAll parts + 1
  | .iface _ d => uptoBulk d + 1
  | .map entries => uptoBulkEntries entries + 1
  | .held _ => 1
def uptoBulkAll {H : Type} : List (DataW H) → Nat
  | [] => 0
  | d :: r => uptoBulk d + uptoBulkAll r
def uptoBulkEntries {H : Type} : List (Lit × DataW H) → Nat
  | [] => 0
  | x :: r => uptoBulkEntry x + uptoBulkEntries r
def uptoBulkEntry {H : Type} : Lit × DataW H → Nat
  | (.string bytes, d) => bytes.length + uptoBulk d + 1
  | (_, d) => uptoBulk d + 1
 end
def uptoSmall : (H : Type) → List (DataW H) → Bool := fun _ ds => decide (uptoBulkAll ds ≤ 1048576)
def OpenSpec.upto (s : _root_.Go.ChangeSpec) : _root_.Go.OpenSpec := { _root_.Go.OpenSpec.ofChange s with cond := some uptoSmall }

/-- 'barographlaw03.NumRises', WHERE WHAT IT READS IS OF BULK AT MOST 1048576: true; the input reads as it did. -/
def numRisesUptoRow : OpenClaim := { program := "ytoodbdjmbicaeaa", sum := "a13aa2b2c3834ecef80a40173dbbabc6a577b0ce474f2b3cae4f2e9b1ee5bd83", func := "barograph/barographlaw03.NumRises", spec := "numRises", inPlace := ["math.Float64frombits", "math.Float64bits", "math.archTrunc", "math.sqrt"], apart := false, narrowed := true }
def NumRisesUptoSaid : Prop := numRisesUptoRow.holds Try.pinned (OpenSpec.upto numRisesSpec)

/-- 'barographlaw03.NumRing', WHERE WHAT IT READS IS OF BULK AT MOST 1048576: true; the input reads as it did. -/
def numRingUptoRow : OpenClaim := { program := "ytoodbdjmbicaeaa", sum := "a13aa2b2c3834ecef80a40173dbbabc6a577b0ce474f2b3cae4f2e9b1ee5bd83", func := "barograph/barographlaw03.NumRing", spec := "numRing", inPlace := ["math.Float64frombits", "math.Float64bits", "math.archTrunc", "math.sqrt"], apart := false, narrowed := true }
def NumRingUptoSaid : Prop := numRingUptoRow.holds Try.pinned (OpenSpec.upto numRingSpec)

/-- 'barographlaw03.NumSums', WHERE WHAT IT READS IS OF BULK AT MOST 1048576: true; the input reads as it did. -/
def numSumsUptoRow : OpenClaim := { program := "ytoodbdjmbicaeaa", sum := "a13aa2b2c3834ecef80a40173dbbabc6a577b0ce474f2b3cae4f2e9b1ee5bd83", func := "barograph/barographlaw03.NumSums", spec := "numSums", inPlace := ["math.Float64bits", "math.Float64frombits", "math.archTrunc", "math.sqrt"], apart := false, narrowed := true }
def NumSumsUptoSaid : Prop := numSumsUptoRow.holds Try.pinned (OpenSpec.upto numSumsSpec)

/-- 'barographlaw03.NumInts', WHERE WHAT IT READS IS OF BULK AT MOST 1048576: true; the input reads as it did. -/
def numIntsUptoRow : OpenClaim := { program := "ytoodbdjmbicaeaa", sum := "a13aa2b2c3834ecef80a40173dbbabc6a577b0ce474f2b3cae4f2e9b1ee5bd83", func := "barograph/barographlaw03.NumInts", spec := "numInts", inPlace := ["math.Float64bits", "math.Float64frombits", "math.archTrunc", "math.sqrt"], apart := false, narrowed := true }
def NumIntsUptoSaid : Prop := numIntsUptoRow.holds Try.pinned (OpenSpec.upto numIntsSpec)

/-- 'barographlaw03.NumOrder', WHERE WHAT IT READS IS OF BULK AT MOST 1048576: true; the input reads as it did. -/
def numOrderUptoRow : OpenClaim := { program := "ytoodbdjmbicaeaa", sum := "a13aa2b2c3834ecef80a40173dbbabc6a577b0ce474f2b3cae4f2e9b1ee5bd83", func := "barograph/barographlaw03.NumOrder", spec := "numOrder", inPlace := ["math.Float64frombits", "math.Float64bits", "math.archTrunc", "math.sqrt"], apart := false, narrowed := true }
def NumOrderUptoSaid : Prop := numOrderUptoRow.holds Try.pinned (OpenSpec.upto numOrderSpec)

/-- 'barographlaw03.NumSteps', WHERE WHAT IT READS IS OF BULK AT MOST 1048576: true; the input reads as it did. -/
def numStepsUptoRow : OpenClaim := { program := "ytoodbdjmbicaeaa", sum := "a13aa2b2c3834ecef80a40173dbbabc6a577b0ce474f2b3cae4f2e9b1ee5bd83", func := "barograph/barographlaw03.NumSteps", spec := "numSteps", inPlace := ["math.Float64frombits", "math.archFloor", "math.Float64bits", "math.archTrunc", "math.archCeil", "math.sqrt"], apart := false, narrowed := true }
def NumStepsUptoSaid : Prop := numStepsUptoRow.holds Try.pinned (OpenSpec.upto numStepsSpec)

/-- 'barographlaw03.NumOne', WHERE WHAT IT READS IS OF BULK AT MOST 1048576: true; the input reads as it did. -/
def numOneUptoRow : OpenClaim := { program := "ytoodbdjmbicaeaa", sum := "a13aa2b2c3834ecef80a40173dbbabc6a577b0ce474f2b3cae4f2e9b1ee5bd83", func := "barograph/barographlaw03.NumOne", spec := "numOne", inPlace := ["math.Float64frombits", "math.Float64bits", "math.sqrt", "math.archFloor", "math.archTrunc", "math.archCeil"], apart := false, narrowed := true }
def NumOneUptoSaid : Prop := numOneUptoRow.holds Try.pinned (OpenSpec.upto numOneSpec)

/-- 'barographlaw03.NumRest', WHERE WHAT IT READS IS OF BULK AT MOST 1048576: true; the input reads as it did. -/
def numRestUptoRow : OpenClaim := { program := "ytoodbdjmbicaeaa", sum := "a13aa2b2c3834ecef80a40173dbbabc6a577b0ce474f2b3cae4f2e9b1ee5bd83", func := "barograph/barographlaw03.NumRest", spec := "numRest", inPlace := ["math.Float64frombits", "math.Float64bits", "math.archTrunc", "math.sqrt"], apart := false, narrowed := true }
def NumRestUptoSaid : Prop := numRestUptoRow.holds Try.pinned (OpenSpec.upto numRestSpec)

/-- 'barographlaw03.NumTwo', WHERE WHAT IT READS IS OF BULK AT MOST 1048576: true; the input reads as it did. -/
def numTwoUptoRow : OpenClaim := { program := "ytoodbdjmbicaeaa", sum := "a13aa2b2c3834ecef80a40173dbbabc6a577b0ce474f2b3cae4f2e9b1ee5bd83", func := "barograph/barographlaw03.NumTwo", spec := "numTwo", inPlace := ["math.Float64frombits", "math.Float64bits", "math.archFloor", "math.archTrunc", "math.sqrt"], apart := false, narrowed := true }
def NumTwoUptoSaid : Prop := numTwoUptoRow.holds Try.pinned (OpenSpec.upto numTwoSpec)

end Rows
end Go.Proofs.Ytoodbdjmbicaeaa
