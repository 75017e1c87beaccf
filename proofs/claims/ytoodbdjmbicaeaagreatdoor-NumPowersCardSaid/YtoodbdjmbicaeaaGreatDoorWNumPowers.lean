/- NumPowers: the walk. Condition: the library's table of trailing noughts as its initialiser lays it. -/
import Derived.Test.YtoodbdjmbicaeaaGreatDoorCv8
namespace Go.Proofs.YtoodbdjmbicaeaaGreatDoor.numPowers
open Go.RowKit
set_option maxRecDepth 60000
set_option maxHeartbeats 4000000
set_option linter.unusedVariables false
set_option linter.unusedSimpArgs false

theorem of_wf64 {z : Int} (h : (Lit.int .u64 z).wf = true) : ∃ n : Nat, z = (n : Int) ∧ n < 2 ^ 64 := by
  have h1 : 0 ≤ z ∧ z ≤ 18446744073709551615 := by
    have := h; simp [Lit.wf, IntKind.min, IntKind.max, IntKind.signed, IntKind.bits] at this; omega
  exact ⟨z.toNat, by omega, by omega⟩
theorem walkN {a b : Nat} (ha : a < 2 ^ 64) (hb : b < 2 ^ 64) (w : World) (hT : TabW w) : Kb 3 #[wd a, wd b] w (.bool true) := by
  have HT := Lib.hid hT
  clear hT
  have BL := Lib.hid (Below.refl w.heap.size w)
  go_enter Tryz.func3, Tryz.ntmps3
  go_wp2_with (first
    | (go_at_call 4; refine (kknown _).mono ?_; rintro e wk ⟨rfl, n1, hw1⟩; have hw2 := hw1.symm; clear hw1; subst hw2; have BL := Lib.hid (show Below w.heap.size w (w.drewN n1) from BL.out.trans (drew_below _ _ _)))
    | (go_at_call 5; refine (kpow ha hb _ (TabW.drew HT.out _)).mono ?_; rintro e wk ⟨rfl, bk⟩; have BL := Lib.hid (BL.out.trans (bk.mono BL.out.size)); clear bk)
    | (go_at_call 6; refine (krpow ha hb _).mono ?_; rintro e wk ⟨rfl, bk⟩; have BL := Lib.hid (BL.out.trans (bk.mono BL.out.size)); clear bk)
    | (go_at_call 7; refine (katw ha hb _).mono ?_; rintro e wk ⟨rfl, bk⟩; have BL := Lib.hid (BL.out.trans (bk.mono BL.out.size)); clear bk)
    | (go_at_call 8; refine (kratw ha hb _).mono ?_; rintro e wk ⟨rfl, bk⟩; have BL := Lib.hid (BL.out.trans (bk.mono BL.out.size)); clear bk))
  go_ret
  exact ⟨rfl, BL.out⟩
theorem walk (a0 a1 : Int) (w : World) (w0 : (Lit.int .u64 a0).wf = true) (w1 : (Lit.int .u64 a1).wf = true) (hT : TabW w) :
    Calls Tryz.prog 3 #[.int .u64 a0, .int .u64 a1] w fun e w' => e = .returned (.bool true) ∧ Below w.heap.size w w' := by
  obtain ⟨a, rfl, ha⟩ := of_wf64 w0
  obtain ⟨b, rfl, hb⟩ := of_wf64 w1
  exact walkN ha hb w hT
end Go.Proofs.YtoodbdjmbicaeaaGreatDoor.numPowers
