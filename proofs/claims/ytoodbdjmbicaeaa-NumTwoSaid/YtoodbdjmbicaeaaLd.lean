/- A word scaled by a power of two: what rounding gives. No condition. -/
import Derived.Test.YtoodbdjmbicaeaaSca
namespace Go.Proofs.Ytoodbdjmbicaeaa
open Ieee
set_option linter.unusedVariables false
set_option linter.unusedSimpArgs false

theorem mul_some {a b : Nat} (ha : rung a < infR) (hb : rung b < infR) :
    double.mul a b = some (roundW (isNeg a ^^ isNeg b) (mg (rung a) * mg (rung b)) (-1074 + (pl (rung a) : Int) + (-1074 + (pl (rung b) : Int))) false) := by
  unfold Format.mul
  rw [read_num ha, read_num hb]
  show some (double.write (.number _ _ _)) = _
  rw [write_num, roundW_plain]
theorem rnd_same {m m' : Nat} {p p' : Int} (D P P' : Nat) (hP : p + 1074 + D = P) (hP' : p' + 1074 + D = P') (h : m * 2 ^ P = m' * 2 ^ P') : rnd m p = rnd m' p' := by
  have h1 := rnd_near m p D P hP
  have h2 := rnd_near m' p' D P' hP'
  rw [h] at h1
  exact h1.unique h2
theorem sig_eq (r K : Nat) : mg r * 2 ^ (pl r + K) = val r * 2 ^ K := by
  unfold val
  rw [Nat.pow_add, Nat.mul_assoc]
/-- Too little. -/
theorem ld_low {r : Nat} {n : Int} (h0 : r ≠ 0) (h : n + (lgv r : Int) - 1074 < -1075) : rnd (mg r) (-1074 + (pl r : Int) + n) = 0 := by
  obtain ⟨D, hD⟩ : ∃ D : Nat, (D : Int) = -n := ⟨(-n).toNat, by omega⟩
  have h1 := rnd_near (mg r) (-1074 + (pl r : Int) + n) D (pl r + 0) (by omega)
  rw [sig_eq, Nat.pow_zero, Nat.mul_one] at h1
  have hv : val r < 2 ^ (lgv r + 1) := Nat.lt_log2_self
  have h2 : 2 ^ (lgv r + 1) * 2 ≤ 2 ^ D := by rw [← Nat.pow_succ]; exact Nat.pow_le_pow_right (by decide) (by omega)
  have h3 : val 1 = 1 := by decide
  refine h1.unique ⟨fun s hs => by omega, fun s hs => by omega, ?_, fun _ => rfl⟩
  rw [val_zero, Nat.zero_add, h3, Nat.one_mul]
  omega
/-- Too great. -/
theorem ld_high {r : Nat} {n : Int} (h0 : r ≠ 0) (h : 1023 < n + (lgv r : Int) - 1074) : min (rnd (mg r) (-1074 + (pl r : Int) + n)) infR = infR := by
  obtain ⟨D, hD⟩ : ∃ D : Nat, (0 : Int) ≤ n + D := ⟨(-n).toNat, by omega⟩
  obtain ⟨K, hK⟩ : ∃ K : Nat, n + D = (K : Int) := ⟨(n + D).toNat, by omega⟩
  have h1 := rnd_near (mg r) (-1074 + (pl r : Int) + n) D (pl r + K) (by omega)
  rw [sig_eq] at h1
  have hv : 2 ^ lgv r ≤ val r := Nat.log2_self_le (val_pos h0)
  have hi : val infR = 2 ^ 52 * 2 ^ 2046 := by
    obtain ⟨l, hl⟩ : ∃ l, l = 2046 := ⟨_, rfl⟩
    have e : infR = l * 2 ^ 52 + 2 ^ 52 := by rw [hl]; decide
    rw [e, val_at (L := l) (k := 2 ^ 52) (.inr (Nat.le_refl _)) (by omega), hl]
  obtain ⟨l, hl⟩ : ∃ l, l = 2046 := ⟨_, rfl⟩
  rw [← hl] at hi
  have h2 := near_val D infR
  have hle : val infR * 2 ^ D ≤ val r * 2 ^ K := by
    have a : 2 ^ lgv r * 2 ^ K ≤ val r * 2 ^ K := Nat.mul_le_mul_right _ hv
    rw [← Nat.pow_add] at a
    refine Nat.le_trans ?_ a
    rw [hi, ← Nat.pow_add, ← Nat.pow_add]
    exact Nat.pow_le_pow_right (by decide) (by omega)
  have h3 := h2.mono h1 hle
  omega
/-- Between. -/
theorem ld_mid {r : Nat} {n : Int} {L : Nat} (h0 : r ≠ 0) (hf : frv r < 2 ^ 52) (h : n + (lgv r : Int) - 1074 + 1022 = (L : Int)) : rnd (mg r) (-1074 + (pl r : Int) + n) = L * 2 ^ 52 + (2 ^ 52 + frv r) := by
  obtain ⟨D, hD⟩ : ∃ D : Nat, (0 : Int) ≤ n + D := ⟨(-n).toNat, by omega⟩
  obtain ⟨K, hK⟩ : ∃ K : Nat, n + D = (K : Int) := ⟨(n + D).toNat, by omega⟩
  refine rnd_val D (pl r + K) (by omega) ?_
  rw [sig_eq, val_at (.inr (by omega)) (by omega)]
  have hm := man_val h0
  have hp : 0 < 2 ^ 52 := Nat.two_pow_pos _
  refine Nat.eq_of_mul_eq_mul_right hp ?_
  have e1 : val r * 2 ^ K * 2 ^ 52 = val r * 2 ^ 52 * 2 ^ K := Nat.mul_right_comm _ _ _
  have e2 : (2 ^ 52 + frv r) * 2 ^ L * 2 ^ D * 2 ^ 52 = (2 ^ 52 + frv r) * 2 ^ (L + D + 52) := by rw [Nat.mul_assoc, Nat.mul_assoc, ← Nat.pow_add, ← Nat.pow_add, Nat.add_assoc]
  rw [e1, e2, ← hm, Nat.mul_assoc, ← Nat.pow_add]
  congr 2
  omega
/-- Little, by a product. -/
theorem ld_sub {r : Nat} {n : Int} {L : Nat} (h0 : r ≠ 0) (hf : frv r < 2 ^ 52) (h : n + (lgv r : Int) - 1074 + 53 + 1022 = (L : Int)) :
    rnd (2 ^ 52 * (2 ^ 52 + frv r)) (-1074 + ((969 : Nat) : Int) + (-1074 + (L : Int))) = rnd (mg r) (-1074 + (pl r : Int) + n) := by
  obtain ⟨D, hD⟩ : ∃ D : Nat, (0 : Int) ≤ n + D - 104 := ⟨(104 - n).toNat, by omega⟩
  obtain ⟨K, hK⟩ : ∃ K : Nat, n + D = ((K + 104 : Nat) : Int) := ⟨(n + D - 104).toNat, by omega⟩
  refine rnd_same D (lgv r + K) (pl r + (K + 104)) (by omega) (by omega) ?_
  rw [sig_eq]
  have hm := man_val h0
  have e : 2 ^ 52 * (2 ^ 52 + frv r) * 2 ^ (lgv r + K) = 2 ^ 52 * ((2 ^ 52 + frv r) * 2 ^ lgv r) * 2 ^ K := by rw [Nat.pow_add, ← Nat.mul_assoc, Nat.mul_assoc (2 ^ 52)]
  rw [e, hm, Nat.pow_add 2 K 104, show (2 : Nat) ^ 104 = 2 ^ 52 * 2 ^ 52 by decide]
  simp only [Nat.mul_assoc, Nat.mul_comm, Nat.mul_left_comm]
end Go.Proofs.Ytoodbdjmbicaeaa
