/- Which words are whole numbers of 64 bits. No condition. -/
import Derived.Test.YtoodbdjmbicaeaaStep
import Derived.Laws.FloatArith
namespace Go.Proofs.Ytoodbdjmbicaeaa
open Ieee

/-- The whole part, with its sign. -/
def sv (a : Nat) : Int := if isNeg a then -((val (rung a) / U1 : Nat) : Int) else ((val (rung a) / U1 : Nat) : Int)
def wholeK (a : Nat) : Bool := decide (rung a < infR) && decide (val (rung a) % U1 = 0) && decide (-9223372036854775808 ≤ sv a) && decide (sv a < 9223372036854775808)
def wholeN (a : Nat) : Int := if wholeK a then sv a else 0

theorem cut_zero (a : Nat) (s : Bool) : Toward.zero.cut s (mg (rung a) <<< (-1074 + (pl (rung a) : Int)).toNat) (-(-1074 + (pl (rung a) : Int))).toNat = val (rung a) / U1 := by
  rw [cut_way (by decide)]
  have hc : carry .zero s (mg (rung a) <<< (-1074 + (pl (rung a) : Int)).toNat % 2 ^ (-(-1074 + (pl (rung a) : Int))).toNat != 0) = false := rfl
  rw [hc, Bool.toNat_false, Nat.add_zero]
  obtain ⟨m, hm⟩ : ∃ m, mg (rung a) = m := ⟨_, rfl⟩
  obtain ⟨p, hp⟩ : ∃ p, pl (rung a) = p := ⟨_, rfl⟩
  have hv : val (rung a) = m * 2 ^ p := by unfold val; rw [hm, hp]
  rw [hm, hp, hv]
  by_cases hbig : 1074 ≤ p
  · have e1 : (-1074 + (p : Int)).toNat = p - 1074 := by omega
    have e2 : (-(-1074 + (p : Int))).toNat = 0 := by omega
    rw [e1, e2, Nat.shiftLeft_eq, Nat.pow_zero, Nat.div_one, U1_more hbig, ← Nat.mul_assoc, Nat.mul_div_cancel _ U1_pos]
  · have e1 : (-1074 + (p : Int)).toNat = 0 := by omega
    have e2 : (-(-1074 + (p : Int))).toNat = 1074 - p := by omega
    have e6 : U1 = 2 ^ (1074 - p) * 2 ^ p := U1_split (by omega)
    rw [e1, e2, e6, Nat.shiftLeft_eq, Nat.pow_zero, Nat.mul_one, Nat.mul_div_mul_right _ _ (Nat.two_pow_pos _)]
theorem toInt_fin {a : Nat} (hf : rung a < infR) : (double.read a).toInt .zero = some (sv a) := by
  rw [read_num hf]
  show some (signed (isNeg a) (Toward.zero.cut (isNeg a) (mg (rung a) <<< (-1074 + (pl (rung a) : Int)).toNat) (-(-1074 + (pl (rung a) : Int))).toNat) 0) = _
  rw [cut_zero, signed_eq, Nat.pow_zero, Nat.mul_one]
  rfl
theorem toIntVal {a : Nat} (hf : rung a < infR) (h1 : -9223372036854775808 ≤ sv a) (h2 : sv a < 9223372036854775808) : floatToIntVal .f64 a .i64 = some (sv a) := by
  unfold floatToIntVal
  have e : (FloatKind.f64.decode a).toInt .zero = some (sv a) := toInt_fin hf
  rw [e]
  have h3 : IntKind.i64.min ≤ sv a ∧ sv a ≤ IntKind.i64.max := by
    have e1 : IntKind.i64.min = -9223372036854775808 := by decide
    have e2 : IntKind.i64.max = 9223372036854775807 := by decide
    rw [e1, e2]
    omega
  show (if IntKind.i64.min ≤ sv a ∧ sv a ≤ IntKind.i64.max then some (sv a) else none) = some (sv a)
  rw [if_pos h3]
/-- The whole part's word is the word just if nothing is left. -/
theorem trunc_self {a : Nat} (ha : a < 2 ^ 64) (hf : rung a < infR) : (val (rung a) % U1 = 0 → wayV .zero a = a) ∧ (val (rung a) % U1 ≠ 0 → nanW (wayV .zero a) = false ∧ ival a ≠ ival (wayV .zero a)) := by
  obtain ⟨r, h1, h2, h3⟩ := wayV_fin (way := .zero) (by decide) hf
  have hi := infR_lt
  have hc : carry .zero (isNeg a) (val (rung a) % U1 != 0) = false := rfl
  rw [hc, Bool.toNat_false, Nat.add_zero] at h3
  have hd := Nat.div_add_mod (val (rung a)) U1
  rw [Nat.mul_comm] at hd
  rw [h2]
  constructor
  · intro h
    rw [h] at hd
    have : r = rung a := val_inj (by omega)
    rw [this, word_split ha]
  · intro h
    refine ⟨nan_word (by omega), ?_⟩
    rw [ival_word (by omega)]
    unfold ival
    split <;> omega
theorem val_63 {o : Nat} (h : o = 1085 * 2 ^ 52 + 2 ^ 52) : val o = 2 ^ 63 * U1 := by
  obtain ⟨l, hl⟩ : ∃ l, l = 1085 := ⟨_, rfl⟩
  obtain ⟨n, hn⟩ : ∃ n, n = 1074 := ⟨_, rfl⟩
  have e : o = l * 2 ^ 52 + 2 ^ 52 := by rw [h, hl]
  rw [e, val_at (L := l) (k := 2 ^ 52) (.inr (Nat.le_refl _)) (by omega), U1_of hn, ← Nat.pow_add, ← Nat.pow_add]
  congr 1
  omega
/-- How a finite word that is whole stands to the bounds. -/
theorem bounds {a : Nat} (hr : val (rung a) % U1 = 0) : ival a = sv a * U1 := by
  have hd := Nat.div_add_mod (val (rung a)) U1
  rw [Nat.mul_comm, hr, Nat.add_zero] at hd
  unfold ival sv
  split
  · rw [Int.neg_mul, ← Int.natCast_mul, hd]
  · rw [← Int.natCast_mul, hd]
theorem ival_lo : ival 14114281232179134464 = -9223372036854775808 * (U1 : Int) := by
  have e : rung 14114281232179134464 = 1085 * 2 ^ 52 + 2 ^ 52 := by decide
  unfold ival
  rw [show isNeg 14114281232179134464 = true by decide, if_pos rfl, e, val_63 rfl, Int.natCast_mul, ← Int.neg_mul]
  rfl
theorem ival_hi : ival 4890909195324358656 = 9223372036854775808 * (U1 : Int) := by
  have e : rung 4890909195324358656 = 1085 * 2 ^ 52 + 2 ^ 52 := by decide
  unfold ival
  rw [show isNeg 4890909195324358656 = false by decide, if_neg (by decide), e, val_63 rfl, Int.natCast_mul]
  rfl
end Go.Proofs.Ytoodbdjmbicaeaa
