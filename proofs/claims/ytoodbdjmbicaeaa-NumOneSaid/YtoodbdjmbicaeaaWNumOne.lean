/- NumOne: the walk. -/
import Derived.Test.YtoodbdjmbicaeaaRf9
namespace Go.Proofs.Ytoodbdjmbicaeaa.numOne
open Go.RowKit
set_option maxRecDepth 60000
set_option maxHeartbeats 4000000
set_option linter.unusedVariables false
set_option linter.unusedSimpArgs false

theorem of_wf64 {z : Int} (h : (Lit.int .u64 z).wf = true) : ∃ n : Nat, z = (n : Int) ∧ n < 2 ^ 64 := by
  have h1 : 0 ≤ z ∧ z ≤ 18446744073709551615 := by
    have := h; simp [Lit.wf, IntKind.min, IntKind.max, IntKind.signed, IntKind.bits] at this; omega
  exact ⟨z.toNat, by omega, by omega⟩
theorem intW_lt (n : Int) : intW n < 2 ^ 64 := by
  unfold intW
  have := infR_lt
  exact word_lt' (by omega)
def degW (a : Nat) : Nat := opt (Ieee.double.div (opt (Ieee.double.mul a (intW 180))) 4614256656552045848)
def radW (a : Nat) : Nat := opt (Ieee.double.div (opt (Ieee.double.mul a 4614256656552045848)) (intW 180))
theorem mul_lt64 (a b : Nat) : opt (Ieee.double.mul a b) < 2 ^ 64 := opt_lt fun r h => Ieee.double.mul_lt h

theorem kdeg (a : Nat) (w : World) : Kb 46 #[wd a] w (wd (degW a)) := by
  have BL := Lib.hid (Below.refl w.heap.size w)
  go_enter Try.func46, Try.ntmps46
  go_wp2_with (first
    | (go_at_call 23; refine (kdiv _ _ _).mono ?_; rintro e wk ⟨rfl, nk, hw⟩; have BL := Lib.hid (show Below w.heap.size w wk by rw [hw]; exact BL.out.trans (drew_below _ _ _)); clear hw)
    | (go_at_call 18; refine (kmul _ _ _).mono ?_; rintro e wk ⟨rfl, nk, hw⟩; have BL := Lib.hid (show Below w.heap.size w wk by rw [hw]; exact BL.out.trans (drew_below _ _ _)); clear hw)
    | (go_at_call 22; refine (kintW 180 _).mono ?_; rintro e wz ⟨rfl, hw1⟩; have hw2 := hw1.symm; clear hw1; subst hw2))
  go_ret
  exact ⟨rfl, BL.out⟩
theorem krad (a : Nat) (w : World) : Kb 48 #[wd a] w (wd (radW a)) := by
  have BL := Lib.hid (Below.refl w.heap.size w)
  go_enter Try.func48, Try.ntmps48
  go_wp2_with (first
    | (go_at_call 23; refine (kdiv _ _ _).mono ?_; rintro e wk ⟨rfl, nk, hw⟩; have BL := Lib.hid (show Below w.heap.size w wk by rw [hw]; exact BL.out.trans (drew_below _ _ _)); clear hw)
    | (go_at_call 18; refine (kmul _ _ _).mono ?_; rintro e wk ⟨rfl, nk, hw⟩; have BL := Lib.hid (show Below w.heap.size w wk by rw [hw]; exact BL.out.trans (drew_below _ _ _)); clear hw)
    | (go_at_call 22; refine (kintW 180 _).mono ?_; rintro e wz ⟨rfl, hw1⟩; have hw2 := hw1.symm; clear hw1; subst hw2))
  go_ret
  exact ⟨rfl, BL.out⟩
theorem krdeg {a : Nat} (ha : a < 2 ^ 64) (w : World) : Kb 47 #[wd a] w (wd (degW a)) := by
  have f1 := intW_lt 180
  have f2 : 4614256656552045848 < 2 ^ 64 := by decide
  have f3 := mul_lt64 a (intW 180)
  have f4 := mul_lt64 a 4614256656552045848
  have BL := Lib.hid (Below.refl w.heap.size w)
  go_enter Try.func47, Try.ntmps47
  go_wp2_with (first
    | (go_at_call 55; refine (krdiv (by assumption) (by assumption) _).mono ?_; rintro e wk ⟨rfl, bk⟩; have BL := Lib.hid (BL.out.trans (bk.mono BL.out.size)); clear bk)
    | (go_at_call 54; refine (krmul (by assumption) (by assumption) _).mono ?_; rintro e wk ⟨rfl, bk⟩; have BL := Lib.hid (BL.out.trans (bk.mono BL.out.size)); clear bk)
    | (go_at_call 30; refine (krInt (n := 180) (by decide) (by decide) _).mono ?_; rintro e wk ⟨rfl, bk⟩; have BL := Lib.hid (BL.out.trans (bk.mono BL.out.size)); clear bk))
  go_ret
  exact ⟨rfl, BL.out⟩
theorem krrad {a : Nat} (ha : a < 2 ^ 64) (w : World) : Kb 49 #[wd a] w (wd (radW a)) := by
  have f1 := intW_lt 180
  have f2 : 4614256656552045848 < 2 ^ 64 := by decide
  have f3 := mul_lt64 a (intW 180)
  have f4 := mul_lt64 a 4614256656552045848
  have BL := Lib.hid (Below.refl w.heap.size w)
  go_enter Try.func49, Try.ntmps49
  go_wp2_with (first
    | (go_at_call 55; refine (krdiv (by assumption) (by assumption) _).mono ?_; rintro e wk ⟨rfl, bk⟩; have BL := Lib.hid (BL.out.trans (bk.mono BL.out.size)); clear bk)
    | (go_at_call 54; refine (krmul (by assumption) (by assumption) _).mono ?_; rintro e wk ⟨rfl, bk⟩; have BL := Lib.hid (BL.out.trans (bk.mono BL.out.size)); clear bk)
    | (go_at_call 30; refine (krInt (n := 180) (by decide) (by decide) _).mono ?_; rintro e wk ⟨rfl, bk⟩; have BL := Lib.hid (BL.out.trans (bk.mono BL.out.size)); clear bk))
  go_ret
  exact ⟨rfl, BL.out⟩

theorem walkN {a : Nat} (ha : a < 2 ^ 64) (w : World) : Kb 9 #[wd a] w (.bool true) := by
  have BL := Lib.hid (Below.refl w.heap.size w)
  go_enter Try.func9, Try.ntmps9
  go_wp2_with (first
    | (go_at_call 13; refine (kknown _).mono ?_; rintro e wk ⟨rfl, nk, hw⟩; have BL := Lib.hid (show Below w.heap.size w wk by rw [hw]; exact BL.out.trans (drew_below _ _ _)); clear hw)
    | (go_at_call 19; refine (kneg ha _).mono ?_; rintro e wz ⟨rfl, hw1⟩; have hw2 := hw1.symm; clear hw1; subst hw2)
    | (go_at_call 36; refine (krneg ha _).mono ?_; rintro e wz ⟨rfl, hw1⟩; have hw2 := hw1.symm; clear hw1; subst hw2)
    | (go_at_call 17; refine (kabs ha _).mono ?_; rintro e wz ⟨rfl, hw1⟩; have hw2 := hw1.symm; clear hw1; subst hw2)
    | (go_at_call 37; refine (krabs ha _).mono ?_; rintro e wz ⟨rfl, hw1⟩; have hw2 := hw1.symm; clear hw1; subst hw2)
    | (go_at_call 38; refine (ksgn a _).mono ?_; rintro e wz ⟨rfl, hw1⟩; have hw2 := hw1.symm; clear hw1; subst hw2)
    | (go_at_call 39; refine (krsgn ha _).mono ?_; rintro e wk ⟨rfl, bk⟩; have BL := Lib.hid (BL.out.trans (bk.mono BL.out.size)); clear bk)
    | (go_at_call 16; refine (ksqrt a _).mono ?_; rintro e wk ⟨rfl, nk, hw⟩; have BL := Lib.hid (show Below w.heap.size w wk by rw [hw]; exact BL.out.trans (drew_below _ _ _)); clear hw)
    | (go_at_call 40; refine (krsqrt ha _).mono ?_; rintro e wk ⟨rfl, bk⟩; have BL := Lib.hid (BL.out.trans (bk.mono BL.out.size)); clear bk)
    | (go_at_call 33; refine (kfloor a _).mono ?_; rintro e wk ⟨rfl, nk, hw⟩; have BL := Lib.hid (show Below w.heap.size w wk by rw [hw]; exact BL.out.trans (drew_below _ _ _)); clear hw)
    | (go_at_call 41; refine (krfloor ha _).mono ?_; rintro e wk ⟨rfl, bk⟩; have BL := Lib.hid (BL.out.trans (bk.mono BL.out.size)); clear bk)
    | (go_at_call 34; refine (kceil a _).mono ?_; rintro e wk ⟨rfl, nk, hw⟩; have BL := Lib.hid (show Below w.heap.size w wk by rw [hw]; exact BL.out.trans (drew_below _ _ _)); clear hw)
    | (go_at_call 42; refine (krceil ha _).mono ?_; rintro e wk ⟨rfl, bk⟩; have BL := Lib.hid (BL.out.trans (bk.mono BL.out.size)); clear bk)
    | (go_at_call 35; refine (ktrunc a _).mono ?_; rintro e wk ⟨rfl, nk, hw⟩; have BL := Lib.hid (show Below w.heap.size w wk by rw [hw]; exact BL.out.trans (drew_below _ _ _)); clear hw)
    | (go_at_call 43; refine (krtrunc ha _).mono ?_; rintro e wk ⟨rfl, bk⟩; have BL := Lib.hid (BL.out.trans (bk.mono BL.out.size)); clear bk)
    | (go_at_call 20; refine (kisnan a _).mono ?_; rintro e wz ⟨rfl, hw1⟩; have hw2 := hw1.symm; clear hw1; subst hw2)
    | (go_at_call 44; refine (krNaN ha _).mono ?_; rintro e wz ⟨rfl, hw1⟩; have hw2 := hw1.symm; clear hw1; subst hw2)
    | (go_at_call 24; refine (kisinf ha _).mono ?_; rintro e wz ⟨rfl, hw1⟩; have hw2 := hw1.symm; clear hw1; subst hw2)
    | (go_at_call 45; refine (krInfQ ha _).mono ?_; rintro e wz ⟨rfl, hw1⟩; have hw2 := hw1.symm; clear hw1; subst hw2)
    | (go_at_call 46; refine (kdeg a _).mono ?_; rintro e wk ⟨rfl, bk⟩; have BL := Lib.hid (BL.out.trans (bk.mono BL.out.size)); clear bk)
    | (go_at_call 47; refine (krdeg ha _).mono ?_; rintro e wk ⟨rfl, bk⟩; have BL := Lib.hid (BL.out.trans (bk.mono BL.out.size)); clear bk)
    | (go_at_call 48; refine (krad a _).mono ?_; rintro e wk ⟨rfl, bk⟩; have BL := Lib.hid (BL.out.trans (bk.mono BL.out.size)); clear bk)
    | (go_at_call 49; refine (krrad ha _).mono ?_; rintro e wk ⟨rfl, bk⟩; have BL := Lib.hid (BL.out.trans (bk.mono BL.out.size)); clear bk)
    | (go_at_call 29; refine (kwhole ha _).mono ?_; rintro e wk ⟨rfl, nk, hw⟩; have BL := Lib.hid (show Below w.heap.size w wk by rw [hw]; exact BL.out.trans (drew_below _ _ _)); clear hw)
    | (go_at_call 50; refine (krWhole ha _).mono ?_; rintro e wk ⟨rfl, bk⟩; have BL := Lib.hid (BL.out.trans (bk.mono BL.out.size)); clear bk))
  go_ret
  exact ⟨rfl, BL.out⟩
theorem walk (a0 : Int) (w : World) (w0 : (Lit.int .u64 a0).wf = true) :
    Calls Try.prog 9 #[.int .u64 a0] w fun e w' => e = .returned (.bool true) ∧ Below w.heap.size w w' := by
  obtain ⟨a, rfl, ha⟩ := of_wf64 w0
  exact walkN ha w
end Go.Proofs.Ytoodbdjmbicaeaa.numOne
