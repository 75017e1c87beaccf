/- What the chapter's examples fix: the statements' function known. No condition. -/
import Derived.Test.YtoodbdjmbicaeaaGreatDoorNum2
namespace Go.Proofs.YtoodbdjmbicaeaaGreatDoor
open Go.RowKit
set_option maxRecDepth 8000

theorem kintL {n : Int} (v : Nat) (h : bitsW (floatOfInt .f64 n) = v) (w : World) : Kp 10 #[.int .i64 n] w (wd v) := by
  have := kint n w
  rw [h] at this
  exact this
theorem ktruncL {a : Nat} (h : wayV .zero a = a) (hn : nanW a = false) (w : World) : Calls Tryz.prog 52 #[.float .f64 a] w fun e w' => e = .returned (.float .f64 a) ∧ ∃ n, w' = w.drewN n := by
  refine (kmtrunc a w).mono ?_
  rintro e w' ⟨r, n, rfl, hr, rfl⟩
  rw [h] at hr
  rw [bitsW_inj hr hn]
  exact ⟨rfl, n, rfl⟩
theorem kwholeL (w : World) : Kn 9 #[.int .u64 4845873199050653696] w (.tuple #[.int .i64 9007199254740992, .bool true]) := by
  have h1 : (FloatKind.f64.format.order 4845873199050653696 4845873199050653696 != some .eq) = false := by decide +kernel
  have h2 : (FloatKind.f64.format.order 4845873199050653696 14114281232179134464 == some .lt) = false := by decide +kernel
  have h3 : (FloatKind.f64.format.order 4845873199050653696 4890909195324358656 == some .gt || FloatKind.f64.format.order 4845873199050653696 4890909195324358656 == some .eq) = false := by decide +kernel
  have h4 : floatToIntVal .f64 4845873199050653696 .i64 = some 9007199254740992 := by decide +kernel
  have h5 := fun W => run_convert_float_int (P := Tryz.prog) W 34 2 .f64 .i64 4845873199050653696 9007199254740992 (by kernel_rfl) (by kernel_rfl) h4
  go_enter Tryz.func9, Tryz.ntmps9
  go_wp2_with (first
    | (go_at_call 52; refine (ktruncL (a := 4845873199050653696) (by decide +kernel) (by decide +kernel) _).mono ?_; rintro e w1 ⟨rfl, n, rfl⟩)
    | (go_at_call 19; refine (kof 4845873199050653696 _).mono ?_; rintro e w1 ⟨rfl, rfl⟩))
  go_ret2
  exact ⟨rfl, n, rfl⟩
theorem kcmpL (w : World) : Kp 11 #[.int .u64 13837309855095848960, .int .u64 4611686018427387904] w (.tuple #[.int .i64 (-1), .bool true]) := by
  have h := kcmp 13837309855095848960 4611686018427387904 w
  rw [show cmpC 13837309855095848960 4611686018427387904 = -1 by decide +kernel, show cmpK 13837309855095848960 4611686018427387904 = true by decide +kernel] at h
  exact h
theorem kaddL (w : World) : Kn 12 #[.int .u64 4591870180066957722, .int .u64 4596373779694328218] w (.int .u64 4599075939470750516) := by
  have h := kadd 4591870180066957722 4596373779694328218 w
  rw [show opt (Ieee.double.add 4591870180066957722 4596373779694328218) = 4599075939470750516 by decide +kernel] at h
  exact h
theorem kdivL (w : World) : Kn 13 #[.int .u64 4607182418800017408, .int .u64 4613937818241073152] w (.int .u64 4599676419421066581) := by
  have h := kdiv 4607182418800017408 4613937818241073152 w
  rw [show opt (Ieee.double.div 4607182418800017408 4613937818241073152) = 4599676419421066581 by decide +kernel] at h
  exact h
theorem ksqrtL (w : World) : Kn 14 #[.int .u64 4611686018427387904] w (.int .u64 4609047870845172685) := by
  have h := ksqrt 4611686018427387904 w
  rw [show opt (Ieee.double.sqrt 4611686018427387904) = 4609047870845172685 by decide +kernel] at h
  exact h
theorem kknown (w : World) : Kn 4 #[] w (.bool true) := by
  go_enter Tryz.func4, Tryz.ntmps4
  go_wp2_with (first
    | (go_at_call 14; refine (ksqrtL _).mono ?_; rintro e w1 ⟨rfl, n4, rfl⟩)
    | (go_at_call 13; refine (kdivL _).mono ?_; rintro e w1 ⟨rfl, n3, rfl⟩)
    | (go_at_call 12; refine (kaddL _).mono ?_; rintro e w1 ⟨rfl, n2, rfl⟩)
    | (go_at_call 11; refine (kcmpL _).mono ?_; rintro e w1 ⟨rfl, rfl⟩)
    | (go_at_call 9; refine (kwholeL _).mono ?_; rintro e w1 ⟨rfl, n1, rfl⟩)
    | (go_at_call 10; have u5 := t5; have t6 := True.intro; refine (kintL (n := 2) 4611686018427387904 (by decide +kernel) _).mono ?_; rintro e w1 ⟨rfl, rfl⟩)
    | (go_at_call 10; have u4 := t4; have t5 := True.intro; refine (kintL (n := 3) 4613937818241073152 (by decide +kernel) _).mono ?_; rintro e w1 ⟨rfl, rfl⟩)
    | (go_at_call 10; have u3 := t3; have t4 := True.intro; refine (kintL (n := 1) 4607182418800017408 (by decide +kernel) _).mono ?_; rintro e w1 ⟨rfl, rfl⟩)
    | (go_at_call 10; have u2 := t2; have t3 := True.intro; refine (kintL (n := 2) 4611686018427387904 (by decide +kernel) _).mono ?_; rintro e w1 ⟨rfl, rfl⟩)
    | (go_at_call 10; have u1 := t1; have t2 := True.intro; refine (kintL (n := -3) 13837309855095848960 (by decide +kernel) _).mono ?_; rintro e w1 ⟨rfl, rfl⟩)
    | (go_at_call 10; have t1 := True.intro; refine (kintL (n := 9007199254740993) 4845873199050653696 (by decide +kernel) _).mono ?_; rintro e w1 ⟨rfl, rfl⟩))
  go_ret
  exact ⟨rfl, _, rfl⟩
end Go.Proofs.YtoodbdjmbicaeaaGreatDoor
