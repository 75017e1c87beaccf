/- The document's Sqrt and Whole. No condition. -/
import Derived.Test.YtoodbdjmbicaeaaGreatDoorRf7
namespace Go.Proofs.YtoodbdjmbicaeaaGreatDoor
open Go.RowKit
set_option maxRecDepth 8000
set_option maxHeartbeats 1000000
set_option linter.unusedVariables false
set_option linter.unusedSimpArgs false

theorem sqrt_nought {a : Nat} (ha : a < 2 ^ 64) (h0 : rung a = 0) : opt (Ieee.double.sqrt a) = a := by
  unfold Ieee.Format.sqrt
  have e : Ieee.double.read a = .number (isNeg a) 0 (-1074) := by
    rw [read_num (by rw [h0]; decide), h0]
    rfl
  rw [e]
  show opt (some (Ieee.double.write (.number (isNeg a) 0 (-1074)))) = a
  have hr : rnd 0 (-1074) = 0 := by unfold rnd; rw [if_pos rfl]
  rw [write_num, hr, Nat.zero_min, word_zero, ← h0, word_split ha]
theorem sqrt_negs {a : Nat} (hs : isNeg a = true) (h0 : rung a ≠ 0) (hn : nanW a = false) : Ieee.double.sqrt a = none := by
  unfold Ieee.Format.sqrt
  by_cases hi : rung a = infR
  · rw [read_inf hi, hs]; rfl
  · have hf : rung a < infR := by have := nan_false hn; omega
    rw [read_num hf, hs]
    have hm : mg (rung a) ≠ 0 := fun h => h0 (mg_zero.1 h)
    obtain ⟨m, hmm⟩ : ∃ m, mg (rung a) = m := ⟨_, rfl⟩
    rw [hmm] at hm ⊢
    show Option.map _ (Ieee.Datum.root _ (.number true m _)) = none
    simp only [Ieee.Datum.root, if_neg hm]
    rfl
theorem sqrt_nan {a : Nat} (hn : nanW a = true) : Ieee.double.sqrt a = none := by
  unfold Ieee.Format.sqrt
  rw [read_nan hn]
  rfl
theorem tdiv_even {x : Int} (h : x % 2 = 0) : x.tdiv 2 = x / 2 := by
  exact Int.tdiv_eq_ediv_of_dvd (Int.dvd_of_emod_eq_zero h)
end Go.Proofs.YtoodbdjmbicaeaaGreatDoor
