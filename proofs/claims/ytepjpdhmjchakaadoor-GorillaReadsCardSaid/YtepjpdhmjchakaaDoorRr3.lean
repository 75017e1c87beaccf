/- The program's read of a chunk: one whose number of samples is out of bounds. -/
import Derived.Test.YtepjpdhmjchakaaDoorRrComb
import Derived.Test.YtepjpdhmjchakaaDoorGzOwn
import Derived.Test.YtepjpdhmjchakaaDoorGzEq
namespace Go.Proofs.YtepjpdhmjchakaaDoor
open Go.RowKit
set_option linter.unusedVariables false

set_option maxHeartbeats 1000000 in
set_option maxRecDepth 100000 in
/-- A chunk whose number of samples is out of bounds is none. -/
theorem read_out (w : World) (F T N : Int) (u : Value) (hN : N < 1 ∨ 120 < N) :
    Calls Tryd.prog 67 #[.agg #[.int .i64 F, .int .i64 T, .int .i64 N, u]] w fun e w' => e = .returned (.tuple #[.slice none 0 0, .bool false]) ∧ Below w.heap.size w w' := by
  obtain ⟨Wa, hWa⟩ : ∃ Wa, w.alloc (.cells #[.int .i64 F, .int .i64 T, .int .i64 N, u] 73) = Wa := ⟨_, rfl⟩
  have hba : Below w.heap.size w Wa := by rw [← hWa]; exact (Below.refl _ _).alloc (Nat.le_refl _) _
  have hbx : Wa.heap[w.heap.size]? = some (.cells #[.int .i64 F, .int .i64 T, .int .i64 N, u] 73 (0, 0)) := by rw [← hWa]; exact heap_alloc_new w _
  obtain ⟨k0, k1, k2, k3, kz⟩ := box4 hbx
  have HBA := Lib.hid hba
  clear hba hbx
  by_cases h1 : N < 1
  · have g1 : decide (N < 1) = true := decide_eq_true h1
    go_enter Tryd.func67, Tryd.ntmps67
    go_wp2
    go_ret2
    exact ⟨rfl, HBA.out⟩
  · have g1 : decide (N < 1) = false := decide_eq_false h1
    have g2 : decide (120 < N) = true := decide_eq_true (by omega)
    go_enter Tryd.func67, Tryd.ntmps67
    go_wp2
    go_ret2
    exact ⟨rfl, HBA.out⟩
end Go.Proofs.YtepjpdhmjchakaaDoor
