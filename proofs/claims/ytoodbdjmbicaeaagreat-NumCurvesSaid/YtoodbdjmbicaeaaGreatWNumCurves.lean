/- NumCurves: the walk. -/
import Derived.Test.YtoodbdjmbicaeaaGreatCv7
namespace Go.Proofs.YtoodbdjmbicaeaaGreat.numCurves
open Go.RowKit
set_option maxRecDepth 60000
set_option maxHeartbeats 4000000
set_option linter.unusedVariables false
set_option linter.unusedSimpArgs false

theorem of_wf64 {z : Int} (h : (Lit.int .u64 z).wf = true) : ∃ n : Nat, z = (n : Int) ∧ n < 2 ^ 64 := by
  have h1 : 0 ≤ z ∧ z ≤ 18446744073709551615 := by
    have := h; simp [Lit.wf, IntKind.min, IntKind.max, IntKind.signed, IntKind.bits] at this; omega
  exact ⟨z.toNat, by omega, by omega⟩
theorem walkN {a : Nat} (ha : a < 2 ^ 64) (w : World) : Kb 4 #[wd a] w (.bool true) := by
  have BL := Lib.hid (Below.refl w.heap.size w)
  go_enter Tryz.func4, Tryz.ntmps4
  go_wp2_with (first
    | (go_at_call 17; refine (kknown _).mono ?_; rintro e wk ⟨rfl, nk, hw⟩; have BL := Lib.hid (show Below w.heap.size w wk by rw [hw]; first | exact BL.out.trans (drew_below _ _ _) | exact (BL.out.trans (drew_below _ _ _)).trans (drew_below _ _ _) | exact (BL.out.alloc BL.out.size _).trans (drew_below _ _ _)); clear hw)
    | (go_at_call 18; refine (kexp ha _).mono ?_; rintro e wk ⟨rfl, bk⟩; have BL := Lib.hid (BL.out.trans (bk.mono BL.out.size)); clear bk)
    | (go_at_call 19; refine (krexp ha _).mono ?_; rintro e wk ⟨rfl, bk⟩; have BL := Lib.hid (BL.out.trans (bk.mono BL.out.size)); clear bk)
    | (go_at_call 20; refine (kln ha _).mono ?_; rintro e wk ⟨rfl, bk⟩; have BL := Lib.hid (BL.out.trans (bk.mono BL.out.size)); clear bk)
    | (go_at_call 21; refine (krln ha _).mono ?_; rintro e wk ⟨rfl, bk⟩; have BL := Lib.hid (BL.out.trans (bk.mono BL.out.size)); clear bk)
    | (go_at_call 22; refine (klogt ha _).mono ?_; rintro e wk ⟨rfl, bk⟩; have BL := Lib.hid (BL.out.trans (bk.mono BL.out.size)); clear bk)
    | (go_at_call 23; refine (krlogt ha _).mono ?_; rintro e wk ⟨rfl, bk⟩; have BL := Lib.hid (BL.out.trans (bk.mono BL.out.size)); clear bk)
    | (go_at_call 24; refine (klogd ha _).mono ?_; rintro e wk ⟨rfl, bk⟩; have BL := Lib.hid (BL.out.trans (bk.mono BL.out.size)); clear bk)
    | (go_at_call 25; refine (krlogd ha _).mono ?_; rintro e wk ⟨rfl, bk⟩; have BL := Lib.hid (BL.out.trans (bk.mono BL.out.size)); clear bk)
    | (go_at_call 26; refine (ksinh ha _).mono ?_; rintro e wk ⟨rfl, bk⟩; have BL := Lib.hid (BL.out.trans (bk.mono BL.out.size)); clear bk)
    | (go_at_call 27; refine (krsinh ha _).mono ?_; rintro e wk ⟨rfl, bk⟩; have BL := Lib.hid (BL.out.trans (bk.mono BL.out.size)); clear bk)
    | (go_at_call 28; refine (kcosh ha _).mono ?_; rintro e wk ⟨rfl, bk⟩; have BL := Lib.hid (BL.out.trans (bk.mono BL.out.size)); clear bk)
    | (go_at_call 29; refine (krcosh ha _).mono ?_; rintro e wk ⟨rfl, bk⟩; have BL := Lib.hid (BL.out.trans (bk.mono BL.out.size)); clear bk)
    | (go_at_call 30; refine (ktanh ha _).mono ?_; rintro e wk ⟨rfl, bk⟩; have BL := Lib.hid (BL.out.trans (bk.mono BL.out.size)); clear bk)
    | (go_at_call 31; refine (krtanh ha _).mono ?_; rintro e wk ⟨rfl, bk⟩; have BL := Lib.hid (BL.out.trans (bk.mono BL.out.size)); clear bk)
    | (go_at_call 32; refine (kasinh ha _).mono ?_; rintro e wk ⟨rfl, bk⟩; have BL := Lib.hid (BL.out.trans (bk.mono BL.out.size)); clear bk)
    | (go_at_call 33; refine (krasinh ha _).mono ?_; rintro e wk ⟨rfl, bk⟩; have BL := Lib.hid (BL.out.trans (bk.mono BL.out.size)); clear bk)
    | (go_at_call 34; refine (kacosh ha _).mono ?_; rintro e wk ⟨rfl, bk⟩; have BL := Lib.hid (BL.out.trans (bk.mono BL.out.size)); clear bk)
    | (go_at_call 35; refine (kracosh ha _).mono ?_; rintro e wk ⟨rfl, bk⟩; have BL := Lib.hid (BL.out.trans (bk.mono BL.out.size)); clear bk)
    | (go_at_call 36; refine (katanh ha _).mono ?_; rintro e wk ⟨rfl, bk⟩; have BL := Lib.hid (BL.out.trans (bk.mono BL.out.size)); clear bk)
    | (go_at_call 37; refine (kratanh ha _).mono ?_; rintro e wk ⟨rfl, bk⟩; have BL := Lib.hid (BL.out.trans (bk.mono BL.out.size)); clear bk))
  go_ret
  exact ⟨rfl, BL.out⟩
theorem walk (a0 : Int) (w : World) (w0 : (Lit.int .u64 a0).wf = true) :
    Calls Tryz.prog 4 #[.int .u64 a0] w fun e w' => e = .returned (.bool true) ∧ Below w.heap.size w w' := by
  obtain ⟨a, rfl, ha⟩ := of_wf64 w0
  exact walkN ha w
end Go.Proofs.YtoodbdjmbicaeaaGreat.numCurves
