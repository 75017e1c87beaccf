/- Whole numbers of the document's answer: the root. No condition. -/
import Derived.Test.YtoodbdjmbicaeaaGreatDoorWn8
namespace Go.Proofs.YtoodbdjmbicaeaaGreatDoor
open Go.RowKit
set_option maxRecDepth 8000
set_option maxHeartbeats 1000000
set_option linter.unusedVariables false

theorem Bg.keep {lo : Nat} {w w' : World} {v : Value} {n : Nat} (h : Bg lo w v n) (hb : Below w.heap.size w w') : Bg lo w' v n := (Sl.below h hb (Nat.le_refl _)).mono (Nat.le_refl _) hb.size
theorem Bg.low {lo lo' : Nat} {w : World} {v : Value} {n : Nat} (h : Bg lo w v n) (h1 : lo' ≤ lo) : Bg lo' w v n := Sl.mono h h1 (Nat.le_refl _)
theorem drew_below (w : World) (B n : Nat) : Below B w (w.drewN n) := ⟨rfl, rfl, rfl, Nat.le_refl _, fun _ _ => rfl⟩
theorem Bg.zero (lo : Nat) (w : World) : Bg lo w (.slice none 0 0) 0 := by
  show Sl lo w.heap.size f32 w (.slice none 0 0) (dig 0)
  rw [dig_zero]
  exact Sl.nil _ _ _ _
theorem dig_len {n k : Nat} (h : n < bp k) : (dig n).length ≤ k := dig_len_le h
theorem lt_bp (n : Nat) : n < bp (dig n).length := dig_lt n
theorem two_lt_bp {i k : Nat} (h : i < 32 * k) : 2 ^ i < bp k := by
  show 2 ^ i < 4294967296 ^ k
  rw [b_pow]
  exact Nat.pow_lt_pow_right (by decide) h

end Go.Proofs.YtoodbdjmbicaeaaGreatDoor
