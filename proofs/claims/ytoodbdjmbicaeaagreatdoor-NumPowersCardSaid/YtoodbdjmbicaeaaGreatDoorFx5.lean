/- What is left of a division of floats. No condition. -/
import Derived.Test.YtoodbdjmbicaeaaGreatDoorFx4
namespace Go.Proofs.YtoodbdjmbicaeaaGreatDoor
open Go.RowKit
set_option maxRecDepth 20000
set_option maxHeartbeats 2000000
set_option linter.unusedVariables false
set_option linter.unusedSimpArgs false

/-- What Mod gives. -/
def modW (a b : Nat) : Nat := if nanW a ∨ nanW b ∨ rung a = infR ∨ rung b = 0 then theNaN else Ieee.double.word (isNeg a) (modR (rung a) (rung b))
theorem dl1 {d : Nat} (h : (d : Int) ≤ 100000) : -100000 ≤ (d : Int) ∧ (d : Int) ≤ 100000 := by omega
theorem dl2 {d x y : Nat} {c : Prop} [Decidable c] (h : x ≤ 2097) (m : (d : Int) = (x : Int) - (y : Int) - (if c then 1 else 0)) : (d : Int) ≤ 100000 := by split at m <;> omega
theorem dl3 (x y : Int) : x - 1073 - 1 - (y - 1073) = x - y - 1 := by omega
theorem dl4 (x y : Int) : x - 1073 - (y - 1073) = x - y - 0 := by omega
theorem dl5 {x : Nat} {l : Int} (h : x ≤ 2097) (m : (x : Int) - 1073 = l) : -5000 ≤ l ∧ l ≤ 5000 := by omega
end Go.Proofs.YtoodbdjmbicaeaaGreatDoor
