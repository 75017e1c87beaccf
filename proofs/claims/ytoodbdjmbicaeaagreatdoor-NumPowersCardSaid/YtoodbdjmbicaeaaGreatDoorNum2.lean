/- More functions of package num; the statements' function known. No condition. -/
import Derived.Test.YtoodbdjmbicaeaaGreatDoorNum
namespace Go.Proofs.YtoodbdjmbicaeaaGreatDoor
open Go.RowKit
set_option maxRecDepth 8000

theorem bitsW_inj {r v : Nat} (h : bitsW r = v) (hv : nanW v = false) : r = v := by
  unfold bitsW at h
  cases hn : nanW r
  · rw [hn] at h; exact h
  · rw [hn] at h
    have h2 : theNaN = v := h
    rw [← h2] at hv
    cases hv
theorem nan_quiet (neg : Bool) (t : Nat) : nanW (FloatKind.f64.encode (.nan neg (FloatKind.f64.format.quiet t))) = true := by
  show nanW (Ieee.double.word neg (Ieee.double.infRung + (t ||| 2 ^ 51) % Ieee.double.binade)) = true
  rw [binadeW, infW]
  have h1 : (t ||| 2 ^ 51) % 2 ^ 52 ≠ 0 := by
    intro h
    have h2 : ((t ||| 2 ^ 51) % 2 ^ 52).testBit 51 = true := by
      rw [Nat.testBit_mod_two_pow, Nat.testBit_or, Nat.testBit_two_pow]
      simp
    rw [h, Nat.zero_testBit] at h2
    cases h2
  have h3 := Nat.mod_lt (t ||| 2 ^ 51) (show 0 < 2 ^ 52 by decide)
  have hi := infR_eq
  refine decide_eq_true ?_
  rw [rung_word (by omega)]
  omega
/-- The functions that make a number whole. -/
theorem way_run (name : String) (way : Ieee.Toward) (a : Nat) (w : World) : ∃ r n, ((Extern.MathFloor.toIntegral name way #[.float .f64 a]).run Tryz.prog w) = .ok (.float .f64 r) (w.drewN n) ∧ bitsW r = wayV way a := by
  have hu : Extern.MathFloor.toIntegral name way #[.float .f64 a] = (match Ieee.double.read a with
    | .nan s t =>
      if FloatKind.f64.format.quiet t = t then pure (.float .f64 a) else do
      let kept ← choose (.extern "math.Floor,Ceil,Trunc,RoundToEven.signallingNaN kept" 2)
      pure (.float .f64 (if kept == 1 then a else FloatKind.f64.encode (.nan s (FloatKind.f64.format.quiet t))))
    | d => pure (.float .f64 (FloatKind.f64.encode (d.integral way)))) := rfl
  rw [hu]
  cases hn : nanW a
  · refine ⟨Ieee.double.write ((Ieee.double.read a).integral way), 0, ?_, by unfold wayV; rw [hn]; rfl⟩
    by_cases hf : rung a < infR
    · rw [read_num hf]; rfl
    · have := nan_false hn
      rw [read_inf (show rung a = infR by omega)]; rfl
  · rw [read_nan hn]
    have hw : wayV way a = theNaN := wayV_nan hn
    by_cases hq : FloatKind.f64.format.quiet (rung a - infR) = rung a - infR
    · refine ⟨a, 0, ?_, by rw [hw]; unfold bitsW; rw [hn]; rfl⟩
      simp only [hq, if_true]
      rfl
    · simp only [hq, if_false]
      obtain ⟨q, hqq⟩ : ∃ q, Question.extern "math.Floor,Ceil,Trunc,RoundToEven.signallingNaN kept" 2 = q := ⟨_, rfl⟩
      have hfo : q.forced = false := by rw [← hqq]; rfl
      rw [hqq]
      refine ⟨if Question.cut q (w.tape w.drawn q) == 1 then a else FloatKind.f64.encode (.nan (isNeg a) (FloatKind.f64.format.quiet (rung a - infR))), 1, ?_, ?_⟩
      · simp only [Sem.run_bind, run_choose_drew, hfo]
        rfl
      · have hnn : nanW (if Question.cut q (w.tape w.drawn q) == 1 then a else FloatKind.f64.encode (.nan (isNeg a) (FloatKind.f64.format.quiet (rung a - infR)))) = true := by
          split
          · exact hn
          · exact nan_quiet _ _
        rw [hw]
        unfold bitsW
        rw [hnn]
        rfl
theorem call_trunc (a : Nat) (w : World) : ∃ r n, (callFunc 87 #[.float .f64 a]).run Tryz.prog w = .ok (.value (.float .f64 r)) (w.drewN n) ∧ bitsW r = wayV .zero a := by
  obtain ⟨r, n, h, hr⟩ := way_run "math.archTrunc" .zero a w
  exact ⟨r, n, by rw [run_callFunc_extern Tryz.func87 (by kernel_rfl) (by kernel_rfl) (by kernel_rfl) (e := Extern.MathFloor.toIntegral "math.archTrunc" .zero) (by kernel_rfl), h]; rfl, hr⟩
theorem call_floor (a : Nat) (w : World) : ∃ r n, (callFunc 103 #[.float .f64 a]).run Tryz.prog w = .ok (.value (.float .f64 r)) (w.drewN n) ∧ bitsW r = wayV .down a := by
  obtain ⟨r, n, h, hr⟩ := way_run "math.archFloor" .down a w
  exact ⟨r, n, by rw [run_callFunc_extern Tryz.func103 (by kernel_rfl) (by kernel_rfl) (by kernel_rfl) (e := Extern.MathFloor.toIntegral "math.archFloor" .down) (by kernel_rfl), h]; rfl, hr⟩
theorem kmtrunc (a : Nat) (w : World) : Calls Tryz.prog 52 #[.float .f64 a] w fun e w' => ∃ r n, e = .returned (.float .f64 r) ∧ bitsW r = wayV .zero a ∧ w' = w.drewN n := by
  obtain ⟨r, n, h, hr⟩ := call_trunc a w
  go_enter Tryz.func52, Tryz.ntmps52
  go_wp2
  go_ret
  exact ⟨r, n, rfl, hr, rfl⟩
theorem ktrunc (a : Nat) (w : World) : Kn 57 #[wd a] w (wd (wayV .zero a)) := by
  go_enter Tryz.func57, Tryz.ntmps57
  go_wp2_with (first
    | (go_at_call 53; refine (kbits _ _).mono ?_; rintro e w1 ⟨rfl, rfl⟩)
    | (go_at_call 52; refine (kmtrunc _ _).mono ?_; rintro e w1 ⟨r, n, rfl, hr, rfl⟩)
    | (go_at_call 19; refine (kof _ _).mono ?_; rintro e w1 ⟨rfl, rfl⟩))
  go_ret
  exact ⟨rfl, n, rfl⟩
theorem kmfloor (a : Nat) (w : World) : Calls Tryz.prog 92 #[.float .f64 a] w fun e w' => ∃ r n, e = .returned (.float .f64 r) ∧ bitsW r = wayV .down a ∧ w' = w.drewN n := by
  obtain ⟨r, n, h, hr⟩ := call_floor a w
  go_enter Tryz.func92, Tryz.ntmps92
  go_wp2
  go_ret
  exact ⟨r, n, rfl, hr, rfl⟩
theorem kfloor (a : Nat) (w : World) : Kn 61 #[wd a] w (wd (wayV .down a)) := by
  go_enter Tryz.func61, Tryz.ntmps61
  go_wp2_with (first
    | (go_at_call 53; refine (kbits _ _).mono ?_; rintro e w1 ⟨rfl, rfl⟩)
    | (go_at_call 92; refine (kmfloor _ _).mono ?_; rintro e w1 ⟨r, n, rfl, hr, rfl⟩)
    | (go_at_call 19; refine (kof _ _).mono ?_; rintro e w1 ⟨rfl, rfl⟩))
  go_ret
  exact ⟨rfl, n, rfl⟩
theorem kmsqrt (a : Nat) (w : World) : Calls Tryz.prog 54 #[.float .f64 a] w fun e w' => ∃ r n, e = .returned (.float .f64 r) ∧ bitsW r = opt (Ieee.double.sqrt a) ∧ w' = w.drewN n := by
  obtain ⟨r, n, h, hr⟩ := call_sqrt a w
  go_enter Tryz.func54, Tryz.ntmps54
  go_wp2
  go_ret
  exact ⟨r, n, rfl, hr, rfl⟩
theorem ksqrt (a : Nat) (w : World) : Kn 14 #[wd a] w (wd (opt (Ieee.double.sqrt a))) := by
  go_enter Tryz.func14, Tryz.ntmps14
  go_wp2_with (first
    | (go_at_call 53; refine (kbits _ _).mono ?_; rintro e w1 ⟨rfl, rfl⟩)
    | (go_at_call 54; refine (kmsqrt _ _).mono ?_; rintro e w1 ⟨r, n, rfl, hr, rfl⟩)
    | (go_at_call 19; refine (kof _ _).mono ?_; rintro e w1 ⟨rfl, rfl⟩))
  go_ret
  exact ⟨rfl, n, rfl⟩
def isInfW (a : Nat) : Bool := rung a == infR
theorem ord_inf (a : Nat) : (FloatKind.f64.format.order (a % 2 ^ 63) 9218868437227405311 == some .gt) = isInfW a := by
  show (Ieee.double.order (a % 2 ^ 63) 9218868437227405311 == some .gt) = isInfW a
  have hi := infR_eq
  have hr : rung (a % 2 ^ 63) = rung a := by unfold rung; rw [Nat.mod_mod]
  have hl := rung_lt a
  unfold isInfW
  cases hn : nanW a
  · have h1 := nan_false hn
    have e1 : isNeg (a % 2 ^ 63) = false := by rw [isNeg_iff (by omega)]; exact decide_eq_false (by omega)
    have e2 : rung 9218868437227405311 = 9218868437227405311 := by decide
    rw [order_eq (by rw [hr]; exact h1) (by rw [e2]; omega)]
    have i1 : ival (a % 2 ^ 63) = val (rung a) := by unfold ival; rw [e1, hr]; rfl
    have i2 : ival 9218868437227405311 = val 9218868437227405311 := by unfold ival; rw [e2]; rfl
    rw [i1, i2]
    show (some (compareOfLessAndEq (val (rung a) : Int) (val 9218868437227405311 : Int)) == some .gt) = _
    unfold compareOfLessAndEq
    by_cases h2 : rung a = infR
    · have h3 : val 9218868437227405311 < val (rung a) := val_lt (by omega)
      rw [if_neg (by omega), if_neg (by omega), h2]; simp
    · have h3 : val (rung a) ≤ val 9218868437227405311 := val_le (by omega)
      have e3 : (rung a == infR) = false := by simpa using h2
      rw [e3]
      by_cases h4 : (val (rung a) : Int) < (val 9218868437227405311 : Int)
      · rw [if_pos h4]; rfl
      · rw [if_neg h4, if_pos (by omega)]; rfl
  · have h1 := of_decide_eq_true hn
    rw [order_nan (.inl (by rw [hr]; exact h1))]
    have e3 : (rung a == infR) = false := by simp; omega
    rw [e3]; rfl
/-- Without the sign. -/
def lowN (a : Nat) : Nat := a % 2 ^ 63
theorem kmabs {a : Nat} (ha : a < 2 ^ 64) (w : World) : Kp 91 #[.float .f64 a] w (.float .f64 (lowN a)) := by
  have h : bits .andNot .u64 (a : Int) 9223372036854775808 = ((lowN a : Nat) : Int) := andNotSign ha
  go_enter Tryz.func91, Tryz.ntmps91
  go_wp2
  go_ret
  exact ⟨rfl, rfl⟩
theorem kminf {a : Nat} (ha : a < 2 ^ 64) (w : World) : Kp 56 #[.float .f64 a, .int .i64 0] w (.bool (isInfW a)) := by
  have h : (FloatKind.f64.format.order (lowN a) 9218868437227405311 == some .gt) = isInfW a := ord_inf a
  go_enter Tryz.func56, Tryz.ntmps56
  go_wp2_with (go_at_call 91; refine (kmabs ha _).mono ?_; rintro e w1 ⟨rfl, rfl⟩)
  go_ret
  exact ⟨rfl, rfl⟩
theorem kisinf {a : Nat} (ha : a < 2 ^ 64) (w : World) : Kp 17 #[wd a] w (.bool (isInfW a)) := by
  go_enter Tryz.func17, Tryz.ntmps17
  go_wp2_with (first
    | (go_at_call 56; refine (kminf ha _).mono ?_; rintro e w1 ⟨rfl, rfl⟩)
    | (go_at_call 19; refine (kof _ _).mono ?_; rintro e w1 ⟨rfl, rfl⟩))
  go_ret
  exact ⟨rfl, rfl⟩
end Go.Proofs.YtoodbdjmbicaeaaGreatDoor
