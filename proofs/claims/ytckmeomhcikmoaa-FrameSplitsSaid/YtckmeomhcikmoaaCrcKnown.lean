/- What the chapter's examples fix of the checksum: known returns true. -/
import Derived.Test.YtckmeomhcikmoaaLent
import Derived.Test.YtckmeomhcikmoaaSums
import Derived.Lib.SlBytesConst
namespace Go.Proofs.Ytckmeomhcikmoaa
open Go.RowKit

/-- A literal of bytes, its block just laid. -/
theorem Sl.lit8 (w : World) (l : List UInt8) (cs : Array Value) (t : TypeId) (hcs : (l.map f8).toArray = cs) (hl : l.length ≤ 140737488355328) (n : Nat) (hn : n = l.length) (fr : Nat × Nat := (0, 0)) :
    Sl w.heap.size (w.heap.size + 1) f8 (w.alloc (.cells cs t fr)) (.slice (some ⟨w.heap.size, 0, none⟩) n n) l := by
  subst hcs hn
  refine ⟨_, _, rfl, hl, (fun h => by cases h), fun _ => ⟨w.heap.size, 0, rfl, Nat.le_refl _, Nat.lt_succ_self _, fun j hj => ?_⟩, Nat.le_refl _⟩
  rw [cell_of_row _ _ _ _ _ _ (heap_alloc_new w _)]
  simp [hj]

theorem sum9 : (W32 (Crc.sum [49, 50, 51, 52, 53, 54, 55, 56, 57]) == 3808858755) = true := by decide +kernel
theorem sum1 : (W32 (Crc.sum [0]) == 1383945041) = true := by decide +kernel
theorem sum0 : (W32 (Crc.sum []) == 0) = true := by decide +kernel

set_option maxRecDepth 100000 in
theorem crcKnown_any (w : World) :
    Calls Try.prog 16 #[] w fun e w' => e = .returned (.bool true) ∧ Below w.heap.size w w' := by
  have s9 := sum9
  have s1 := sum1
  have s0 := sum0
  have kc := fun (w : World) (C : Array Value) (n c : Nat) => Lib.run_convert_bytes_const (P := Try.prog) w 23 5 C n c Try.underlying23 Try.underlying5
  go_enter Try.func16, Try.ntmps16
  go_wp2_with fail
  refine Calls.mono (sum_any w.heap.size (w.heap.size + 1) _ _ [49, 50, 51, 52, 53, 54, 55, 56, 57] (by exact Sl.lit8 w [49, 50, 51, 52, 53, 54, 55, 56, 57] _ _ rfl (by simp) _ rfl _) (by simp)) ?_
  rintro e w1 ⟨rfl, hb1⟩
  go_wp2_with fail
  refine Calls.mono (sum_any w1.heap.size (w1.heap.size + 1) _ _ [0] (by exact Sl.lit8 w1 [0] _ _ rfl (by simp) _ rfl _) (by simp)) ?_
  rintro e w2 ⟨rfl, hb2⟩
  go_wp2_with fail
  refine (sum_any 0 0 _ _ _ (Sl.nil _ _ _ _) (by simp)).mono ?_
  rintro e w3 ⟨rfl, hb3⟩
  go_wp2_with fail
  go_ret
  refine ⟨rfl, ?_⟩
  have h1 : Below w.heap.size w w1 := ((Below.refl _ _).alloc (Nat.le_refl _) _).trans (hb1.mono (by simp))
  have h2 : Below w.heap.size w w2 := (h1.alloc h1.size _).trans (hb2.mono (by have := h1.size; simp; omega))
  exact h2.trans (hb3.mono h2.size)
end Go.Proofs.Ytckmeomhcikmoaa
