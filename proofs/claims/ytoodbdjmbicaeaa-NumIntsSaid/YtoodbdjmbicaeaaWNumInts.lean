/- NumInts: the walk. -/
import Derived.Test.YtoodbdjmbicaeaaWho
namespace Go.Proofs.Ytoodbdjmbicaeaa.numInts
open Go.RowKit
set_option maxRecDepth 8000
set_option maxHeartbeats 1000000
set_option linter.unusedVariables false

theorem walkN {n : Int} (h1 : -9223372036854775808 ≤ n) (h2 : n ≤ 9223372036854775807) (w : World) :
    Calls Try.prog 6 #[.int .i64 n] w fun e w' => e = .returned (.bool true) ∧ Below w.heap.size w w' := by
  have hl : intW n < 2 ^ 64 := by
    unfold intW
    have := infR_lt
    exact word_lt' (by omega)
  have hb := int_back (n := n)
  obtain ⟨A, hA⟩ : ∃ A, intW n = A := ⟨_, rfl⟩
  rw [hA] at hl hb
  have HA := Lib.hid hA
  clear hA
  have hcase : n < -9007199254740992 ∨ 9007199254740992 < n ∨ (-9007199254740992 ≤ n ∧ n ≤ 9007199254740992 ∧ wholeK A = true ∧ wholeN A = n) := by
    by_cases g1 : n < -9007199254740992
    · exact .inl g1
    · by_cases g2 : 9007199254740992 < n
      · exact .inr (.inl g2)
      · obtain ⟨g3, g4⟩ := hb (by omega) (by omega)
        exact .inr (.inr ⟨by omega, by omega, g3, g4⟩)
  clear hb
  rcases hcase with g | g | ⟨g1, g2, g3, g4⟩
  · have g' : ¬ -9007199254740992 ≤ n := by omega
    go_enter Try.func6, Try.ntmps6
    go_wp2_with (first
      | (go_at_call 31; have tk2 := tk1; refine (kinfT _).mono ?_; rintro e wz ⟨rfl, hw1⟩; have hw2 := hw1.symm; clear hw1; subst hw2)
      | (go_at_call 31; have tk1 := True.intro; refine (kinfF _).mono ?_; rintro e wz ⟨rfl, hw1⟩; have hw2 := hw1.symm; clear hw1; subst hw2)
      | (go_at_call 21; refine (knan _).mono ?_; rintro e wz ⟨rfl, hw1⟩; have hw2 := hw1.symm; clear hw1; subst hw2)
      | (go_at_call 30; refine (krInt h1 h2 _).mono ?_; rw [HA.out]; rintro e w4 ⟨rfl, b4⟩; have B4 := Lib.hid ((drew_below w w.heap.size (n1 + n2)).trans b4); clear b4)
      | (go_at_call 13; refine (kknown _).mono ?_; rintro e wk ⟨rfl, n2, hw1⟩; subst hw1)
      | (go_at_call 29; refine (kwhole hl _).mono ?_; rintro e wk ⟨rfl, n1, hw1⟩; subst hw1)
      | (go_at_call 22; refine (kintW n _).mono ?_; rw [HA.out]; rintro e wk ⟨rfl, hw1⟩; have hw2 := hw1.symm; clear hw1; subst hw2))
    go_ret
    exact ⟨rfl, B4.out⟩
  · have g' : -9007199254740992 ≤ n := by omega
    have g'' : ¬ n ≤ 9007199254740992 := by omega
    go_enter Try.func6, Try.ntmps6
    go_wp2_with (first
      | (go_at_call 31; have tk2 := tk1; refine (kinfT _).mono ?_; rintro e wz ⟨rfl, hw1⟩; have hw2 := hw1.symm; clear hw1; subst hw2)
      | (go_at_call 31; have tk1 := True.intro; refine (kinfF _).mono ?_; rintro e wz ⟨rfl, hw1⟩; have hw2 := hw1.symm; clear hw1; subst hw2)
      | (go_at_call 21; refine (knan _).mono ?_; rintro e wz ⟨rfl, hw1⟩; have hw2 := hw1.symm; clear hw1; subst hw2)
      | (go_at_call 30; refine (krInt h1 h2 _).mono ?_; rw [HA.out]; rintro e w4 ⟨rfl, b4⟩; have B4 := Lib.hid ((drew_below w w.heap.size (n1 + n2)).trans b4); clear b4)
      | (go_at_call 13; refine (kknown _).mono ?_; rintro e wk ⟨rfl, n2, hw1⟩; subst hw1)
      | (go_at_call 29; refine (kwhole hl _).mono ?_; rintro e wk ⟨rfl, n1, hw1⟩; subst hw1)
      | (go_at_call 22; refine (kintW n _).mono ?_; rw [HA.out]; rintro e wk ⟨rfl, hw1⟩; have hw2 := hw1.symm; clear hw1; subst hw2))
    go_ret
    exact ⟨rfl, B4.out⟩
  · go_enter Try.func6, Try.ntmps6
    go_wp2_with (first
      | (go_at_call 31; have tk2 := tk1; refine (kinfT _).mono ?_; rintro e wz ⟨rfl, hw1⟩; have hw2 := hw1.symm; clear hw1; subst hw2)
      | (go_at_call 31; have tk1 := True.intro; refine (kinfF _).mono ?_; rintro e wz ⟨rfl, hw1⟩; have hw2 := hw1.symm; clear hw1; subst hw2)
      | (go_at_call 21; refine (knan _).mono ?_; rintro e wz ⟨rfl, hw1⟩; have hw2 := hw1.symm; clear hw1; subst hw2)
      | (go_at_call 30; refine (krInt h1 h2 _).mono ?_; rw [HA.out]; rintro e w4 ⟨rfl, b4⟩; have B4 := Lib.hid ((drew_below w w.heap.size (n1 + n2)).trans b4); clear b4)
      | (go_at_call 13; refine (kknown _).mono ?_; rintro e wk ⟨rfl, n2, hw1⟩; subst hw1)
      | (go_at_call 29; refine (kwhole hl _).mono ?_; rintro e wk ⟨rfl, n1, hw1⟩; subst hw1)
      | (go_at_call 22; refine (kintW n _).mono ?_; rw [HA.out]; rintro e wk ⟨rfl, hw1⟩; have hw2 := hw1.symm; clear hw1; subst hw2))
    go_ret
    exact ⟨rfl, B4.out⟩

theorem walk (a0 : Int) (w : World) (w0 : (Lit.int .i64 a0).wf = true) :
    Calls Try.prog 6 #[.int .i64 a0] w fun e w' => e = .returned (.bool true) ∧ Below w.heap.size w w' := by
  have h : -9223372036854775808 ≤ a0 ∧ a0 ≤ 9223372036854775807 := by
    have := w0; simp [Lit.wf, IntKind.min, IntKind.max, IntKind.signed, IntKind.bits] at this; omega
  exact walkN h.1 h.2 w
end Go.Proofs.Ytoodbdjmbicaeaa.numInts
