/- Bounds of what is rounded: products, sums, floors; when one word is below another. No condition. -/
import Derived.Test.YtoodbdjmbicaeaaGreatDoorRest
namespace Go.Proofs.YtoodbdjmbicaeaaGreatDoor
open Ieee
set_option linter.unusedVariables false
set_option linter.unusedSimpArgs false

theorem rnd_le {m r : Nat} {p : Int} (D P : Nat) (hP : p + 1074 + D = P) (h : m * 2 ^ P ≤ val r * 2 ^ D) : rnd m p ≤ r :=
  (rnd_near m p D P hP).mono (near_val D r) h
/-- The magnitude of a power of two. -/
theorem val_two {o k : Nat} (h : o = (1022 + k) * 2 ^ 52 + 2 ^ 52) : val o = 2 ^ k * U1 := by
  obtain ⟨l, hl⟩ : ∃ l, l = 1022 + k := ⟨_, rfl⟩
  obtain ⟨n, hn⟩ : ∃ n, n = 1074 := ⟨_, rfl⟩
  have e : o = l * 2 ^ 52 + 2 ^ 52 := by rw [h, hl]
  rw [e, val_at (L := l) (k := 2 ^ 52) (.inr (Nat.le_refl _)) (by omega), U1_of hn, ← Nat.pow_add, ← Nat.pow_add]
  congr 1
  omega
/-- A product, by powers of two that its factors do not pass. -/
theorem mul_le' {a b A B i j R : Nat} (hA : A = (1022 + i) * 2 ^ 52 + 2 ^ 52) (hB : B = (1022 + j) * 2 ^ 52 + 2 ^ 52) (hR : R = (1022 + (i + j)) * 2 ^ 52 + 2 ^ 52) (hi : A < infR) (hj : B < infR) (hr : R < infR)
    (ha : rung a ≤ A) (hb : rung b ≤ B) : rung (opt (double.mul a b)) ≤ R ∧ nanW (opt (double.mul a b)) = false := by
  rw [mul_some (by omega) (by omega)]
  unfold roundW
  rw [Bool.toNat_false, Nat.add_zero, rnd_double, opt_word (Nat.min_le_right _ _)]
  have hq := infR_lt
  have hp := rnd_le (m := mg (rung a) * mg (rung b)) (r := R) (p := -1074 + (pl (rung a) : Int) + (-1074 + (pl (rung b) : Int))) 1074 (pl (rung a) + pl (rung b)) (by omega) (by
    have h1 := val_le ha
    have h2 := val_le hb
    rw [val_two hA] at h1
    rw [val_two hB] at h2
    rw [val_two hR]
    obtain ⟨n, hn⟩ : ∃ n, n = 1074 := ⟨_, rfl⟩
    rw [← U1_of (n := 1074) rfl]
    have e : mg (rung a) * mg (rung b) * 2 ^ (pl (rung a) + pl (rung b)) = val (rung a) * val (rung b) := by
      unfold val
      rw [Nat.pow_add, Nat.mul_mul_mul_comm]
    rw [e, Nat.pow_add, Nat.mul_assoc, Nat.mul_assoc]
    have h3 := Nat.mul_le_mul h1 h2
    have e2 : 2 ^ i * U1 * (2 ^ j * U1) = 2 ^ i * (2 ^ j * (U1 * U1)) := by rw [Nat.mul_assoc, Nat.mul_left_comm U1]
    rw [e2] at h3
    exact h3)
  refine ⟨?_, nan_word (Nat.min_le_right _ _)⟩
  rw [rung_word (Nat.lt_of_le_of_lt (Nat.min_le_right _ _) hq)]
  exact Nat.le_trans (Nat.min_le_left _ _) hp
theorem add_le' {a b R : Nat} (ha : rung a < infR) (hb : rung b < infR) (h : val (rung a) + val (rung b) ≤ val R) : rung (opt (double.add a b)) ≤ R ∧ nanW (opt (double.add a b)) = false := by
  obtain ⟨r, h1, h2⟩ := add_fin ha hb
  rw [h2, opt_word (Nat.min_le_right _ _)]
  have hq := infR_lt
  have hn := near_val 0 R
  rw [Nat.pow_zero, Nat.mul_one] at hn
  have h3 : r ≤ R := h1.mono hn (by
    have e1 := natAbs_ival a
    have e2 := natAbs_ival b
    have := Int.natAbs_add_le (ival a) (ival b)
    omega)
  refine ⟨?_, nan_word (Nat.min_le_right _ _)⟩
  rw [rung_word (Nat.lt_of_le_of_lt (Nat.min_le_right _ _) hq)]
  exact Nat.le_trans (Nat.min_le_left _ _) h3
/-- The whole number that a floor comes to, of what is not above 4096. -/
theorem floor_le {y : Nat} (h : rung y ≤ 1034 * 2 ^ 52 + 2 ^ 52) : -5000 ≤ wholeN (wayV .down y) ∧ wholeN (wayV .down y) ≤ 5000 := by
  have hi := infR_eq
  have hf : rung y < infR := by omega
  obtain ⟨r, h1, h2, h3⟩ := wayV_fin (way := .down) (by decide) hf
  have hv := val_le h
  rw [val_two (o := 1034 * 2 ^ 52 + 2 ^ 52) (k := 12) rfl] at hv
  have hU := U1_pos
  have hd : val (rung y) / U1 ≤ 4096 := by
    have := Nat.div_le_div_right (c := U1) hv
    rw [Nat.mul_div_cancel _ hU] at this
    omega
  have hc := Bool.toNat_le (carry .down (isNeg y) (val (rung y) % U1 != 0))
  have hr : rung (wayV .down y) = r := by rw [h2, rung_word (Nat.lt_trans h1 infR_lt)]
  have hs : val (rung (wayV .down y)) / U1 ≤ 4097 := by
    rw [hr, h3, Nat.mul_div_cancel _ hU]; omega
  unfold wholeN sv
  obtain ⟨q, hq⟩ : ∃ q, val (rung (wayV .down y)) / U1 = q := ⟨_, rfl⟩
  rw [hq] at hs ⊢
  split
  · split <;> omega
  · omega
/-- k as both texts have it: a times a number below 2, and a half, downwards. -/
theorem quot_le {a c : Nat} (ha : rung a ≤ 1032 * 2 ^ 52 + 2 ^ 52) (hc : rung c ≤ 1023 * 2 ^ 52 + 2 ^ 52) :
    -5000 ≤ wholeN (wayV .down (opt (double.add (opt (double.mul a c)) 4602678819172646912))) ∧ wholeN (wayV .down (opt (double.add (opt (double.mul a c)) 4602678819172646912))) ≤ 5000 := by
  have hi := infR_eq
  obtain ⟨h1, _⟩ := mul_le' (i := 10) (j := 1) (R := 1033 * 2 ^ 52 + 2 ^ 52) rfl rfl (by decide) (by omega) (by omega) (by omega) ha hc
  refine floor_le (add_le' (by omega) (by decide) ?_).1
  have v1 := val_le h1
  rw [val_two (o := 1033 * 2 ^ 52 + 2 ^ 52) (k := 11) rfl] at v1
  have v2 : val (rung 4602678819172646912) ≤ val (1022 * 2 ^ 52 + 2 ^ 52) := val_le (by decide)
  rw [val_one rfl] at v2
  rw [val_two (o := 1034 * 2 ^ 52 + 2 ^ 52) (k := 12) rfl]
  omega

/-- One below the other. -/
theorem ltB_ival {a b : Nat} (na : nanW a = false) (nb : nanW b = false) : decide (0 < cmpC b a) = decide (ival a < ival b) := by
  rw [(cmp_not nb na).1]
  by_cases h : ival a < ival b
  · rw [if_neg (by omega), if_pos h, decide_eq_true h]; rfl
  · rw [decide_eq_false h]
    split
    · rfl
    · rfl
end Go.Proofs.YtoodbdjmbicaeaaGreatDoor
