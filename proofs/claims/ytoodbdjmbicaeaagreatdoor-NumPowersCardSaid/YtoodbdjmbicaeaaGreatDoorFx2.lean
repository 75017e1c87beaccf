/- A float parted into fraction and exponent. No condition. -/
import Derived.Test.YtoodbdjmbicaeaaGreatDoorFx1
namespace Go.Proofs.YtoodbdjmbicaeaaGreatDoor
open Go.RowKit
set_option maxRecDepth 8000
set_option maxHeartbeats 1000000
set_option linter.unusedVariables false
set_option linter.unusedSimpArgs false

/-- The fraction, as a word. -/
def fracW (x : Nat) : Nat := Ieee.double.word (isNeg x) (1022 * 2 ^ 52 + frv (rung x))
theorem eqZero {x : Nat} (hn : nanW x = false) (h0 : rung x ≠ 0) : (FloatKind.f64.format.order x 0 == some .eq) = false := by
  obtain ⟨_, h2, h3⟩ := ord_zero hn
  cases hs : isNeg x
  · rw [h3 h0 hs]; rfl
  · rw [h2 h0 hs]; rfl
theorem expBits {s : Bool} {R : Nat} (h : R < 2 ^ 63) : Ieee.double.word s R / 2 ^ 52 % 2048 = R / 2 ^ 52 := by
  rw [word_eq]
  cases s
  · simp only [Bool.false_eq_true, if_false]; omega
  · simp only [if_true]; omega
theorem kfrexp0 {x : Nat} (hx : x < 2 ^ 64) (hf : rung x < infR) (h0 : rung x ≠ 0) (w : World) :
    Kn 95 #[.float .f64 x] w (.tuple #[.float .f64 (fracW x), .int .i64 ((lgv (rung x) : Int) - 1073)]) := by
  have hn : nanW x = false := nan_of (by omega)
  have ia : isInfW x = false := by unfold isInfW; simp; omega
  have hz := eqZero hn h0
  obtain ⟨a1, a2, a3, a4, a5, a6⟩ := nr_spec h0 hf
  have hi := infR_eq
  have K := Lib.hid (knormal hx hf h0 w)
  have KI := Lib.hid (kminf hx w)
  rw [ia] at KI
  have KN := Lib.hid (kmnan x w)
  rw [hn] at KN
  have hmask := andNotMask (s := isNeg x) (R := nrR (rung x)) (by omega)
  rw [a3] at hmask
  have hor := or_exp (isNeg x) (F := 1022) (f := frv (rung x)) (by decide) a5
  have hexp := expBits (s := isNeg x) (R := nrR (rung x)) (by omega)
  have hwl : Ieee.double.word (isNeg x) (nrR (rung x)) < 2 ^ 64 := word_lt' (by omega)
  unfold fracW
  obtain ⟨V, hV⟩ : ∃ V, Ieee.double.word (isNeg x) (1022 * 2 ^ 52 + frv (rung x)) = V := ⟨_, rfl⟩
  obtain ⟨Y, hY⟩ : ∃ Y, Ieee.double.word (isNeg x) (nrR (rung x)) = Y := ⟨_, rfl⟩
  obtain ⟨Z, hZ⟩ : ∃ Z, Ieee.double.word (isNeg x) (frv (rung x)) = Z := ⟨_, rfl⟩
  rw [hY, hZ] at hmask
  rw [hZ, hV] at hor
  rw [hY] at hexp K hwl
  rw [hV]
  have hor' : bits .or .u64 (Z : Int) 4602678819172646912 = (V : Int) := hor
  obtain ⟨E, hE⟩ : ∃ E, nrE (rung x) = E := ⟨_, rfl⟩
  rw [hE] at K a4
  have hEb : E = -52 ∨ E = 0 := by rw [← hE]; unfold nrE; split <;> simp
  obtain ⟨B, hB⟩ : ∃ B, nrR (rung x) / 2 ^ 52 = B := ⟨_, rfl⟩
  rw [hB] at hexp a4
  obtain ⟨A, hA⟩ : ∃ A, Y / 2 ^ 52 = A := ⟨_, rfl⟩
  rw [hA] at hexp
  obtain ⟨L, hL⟩ : ∃ L : Int, (lgv (rung x) : Int) - 1073 = L := ⟨_, rfl⟩
  have hBl : B < 2048 := by omega
  have hEb2 : -52 ≤ E ∧ E ≤ 0 := by omega
  have h1 : (Y : Int) / 4503599627370496 = (A : Int) := by omega
  have h2 : bits .and .u64 (A : Int) 2047 = (B : Int) := by
    have := and_low A 11 (by omega) (by decide)
    rw [show A % 2 ^ 11 = B from hexp] at this
    exact this
  have h3 : E + ((B : Int) - 1023 + 1) = L := by omega
  rw [hL]
  clear a1 a2 a3 a4 a5 a6 hi hor hexp hV hY hZ hE hEb hB hA hL ia h0 hf hn hwl
  go_enter Tryz.func95, Tryz.ntmps95
  go_wp2_with (first
    | (go_at_call 107; refine (K.out).mono ?_; rintro e wk ⟨rfl, nk, hw1⟩; subst hw1)
    | (go_at_call 55; refine (KN.out).mono ?_; rintro e wz ⟨rfl, hw1⟩; have hw2 := hw1.symm; clear hw1; subst hw2)
    | (go_at_call 56; refine (KI.out).mono ?_; rintro e wz ⟨rfl, hw1⟩; have hw2 := hw1.symm; clear hw1; subst hw2))
  go_ret2
  exact ⟨rfl, nk, rfl⟩
/-- Of noughts, infinities and NaNs. -/
theorem kfrexp1 {x : Nat} (hx : x < 2 ^ 64) (h : rung x = 0 ∨ infR ≤ rung x) (w : World) :
    Kn 95 #[.float .f64 x] w (.tuple #[.float .f64 x, .int .i64 0]) := by
  have KI := Lib.hid (kminf hx w)
  have KN := Lib.hid (kmnan x w)
  by_cases h0 : rung x = 0
  · have hz : (FloatKind.f64.format.order x 0 == some .eq) = true := by rw [(ord_zero (nan_of (by rw [h0]; exact Nat.zero_le _))).1 h0]; rfl
    clear h h0
    go_enter Tryz.func95, Tryz.ntmps95
    go_wp2_with fail
    go_ret2
    exact ⟨rfl, 0, rfl⟩
  · by_cases hi : rung x = infR
    · have hz := eqZero (nan_of (by omega)) h0
      rw [infT hi] at KI
      clear h h0 hi
      go_enter Tryz.func95, Tryz.ntmps95
      go_wp2_with (go_at_call 56; refine (KI.out).mono ?_; rintro e wz ⟨rfl, hw1⟩; have hw2 := hw1.symm; clear hw1; subst hw2)
      go_ret2
      exact ⟨rfl, 0, rfl⟩
    · have hn : nanW x = true := decide_eq_true (by omega)
      have hz : (FloatKind.f64.format.order x 0 == some .eq) = false := by
        have : FloatKind.f64.format.order x 0 = none := order_nan (.inl (of_decide_eq_true hn))
        rw [this]; rfl
      rw [infF hi] at KI
      rw [hn] at KN
      clear h h0 hi hn
      go_enter Tryz.func95, Tryz.ntmps95
      go_wp2_with (first
        | (go_at_call 55; refine (KN.out).mono ?_; rintro e wz ⟨rfl, hw1⟩; have hw2 := hw1.symm; clear hw1; subst hw2)
        | (go_at_call 56; refine (KI.out).mono ?_; rintro e wz ⟨rfl, hw1⟩; have hw2 := hw1.symm; clear hw1; subst hw2))
      go_ret2
      exact ⟨rfl, 0, rfl⟩
theorem kfrexp {x : Nat} (hx : x < 2 ^ 64) (hf : rung x < infR) (h0 : rung x ≠ 0) (w : World) :
    Kn 65 #[.float .f64 x] w (.tuple #[.float .f64 (fracW x), .int .i64 ((lgv (rung x) : Int) - 1073)]) := by
  have K := Lib.hid (kfrexp0 hx hf h0 w)
  obtain ⟨L, hL⟩ : ∃ L : Int, (lgv (rung x) : Int) - 1073 = L := ⟨_, rfl⟩
  rw [hL] at K ⊢
  clear hL
  go_enter Tryz.func65, Tryz.ntmps65
  go_wp2_with (go_at_call 95; refine (K.out).mono ?_; rintro e wk ⟨rfl, nk, hw1⟩; subst hw1)
  go_ret2
  exact ⟨rfl, nk, rfl⟩
theorem kfrexpO {x : Nat} (hx : x < 2 ^ 64) (h : rung x = 0 ∨ infR ≤ rung x) (w : World) :
    Kn 65 #[.float .f64 x] w (.tuple #[.float .f64 x, .int .i64 0]) := by
  have K := Lib.hid (kfrexp1 hx h w)
  go_enter Tryz.func65, Tryz.ntmps65
  go_wp2_with (go_at_call 95; refine (K.out).mono ?_; rintro e wk ⟨rfl, nk, hw1⟩; subst hw1)
  go_ret2
  exact ⟨rfl, nk, rfl⟩
end Go.Proofs.YtoodbdjmbicaeaaGreatDoor
