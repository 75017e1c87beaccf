/- A float normalised and parted. No condition. -/
import Derived.Test.YtoodbdjmbicaeaaGreatDoorRf9
import Derived.Test.YtoodbdjmbicaeaaGreatDoorP3
namespace Go.Proofs.YtoodbdjmbicaeaaGreatDoor
open Go.RowKit
set_option maxRecDepth 8000
set_option maxHeartbeats 1000000
set_option linter.unusedVariables false
set_option linter.unusedSimpArgs false

theorem and_mask {a : Nat} (ha : a < 2 ^ 64) : a &&& 9227875636482146303 = a / 2 ^ 63 * 2 ^ 63 + a % 2 ^ 52 := by
  have hM : (9227875636482146303 : Nat) = 2 ^ 63 * 1 + (2 ^ 52 - 1) := by decide
  have hm52 := Nat.mod_lt a (show 0 < 2 ^ 52 by decide)
  rw [hM, Nat.mul_comm (a / 2 ^ 63)]
  apply Nat.eq_of_testBit_eq
  intro j
  rw [Nat.testBit_and, Nat.testBit_two_pow_mul_add 1 (show 2 ^ 52 - 1 < 2 ^ 63 by decide), Nat.testBit_two_pow_mul_add (a / 2 ^ 63) (show a % 2 ^ 52 < 2 ^ 63 by omega), Nat.testBit_two_pow_sub_one, Nat.testBit_mod_two_pow]
  by_cases h1 : j < 63
  · rw [if_pos h1, if_pos h1, Bool.and_comm]
  · rw [if_neg h1, if_neg h1, Nat.testBit_div_two_pow, show j - 63 + 63 = j by omega]
    by_cases h2 : j = 63
    · subst h2; simp
    · have : a.testBit j = false := Nat.testBit_lt_two_pow (Nat.lt_of_lt_of_le ha (Nat.pow_le_pow_right (by decide) (by omega)))
      rw [this, Bool.false_and]
theorem andNotMask {s : Bool} {R : Nat} (h : R < 2 ^ 63) : bits .andNot .u64 ((Ieee.double.word s R : Nat) : Int) 9218868437227405312 = ((Ieee.double.word s (R % 2 ^ 52) : Nat) : Int) := by
  have hw : Ieee.double.word s R < 2 ^ 64 := word_lt' h
  show IntKind.u64.wrap ((BitVec.ofInt 64 ((Ieee.double.word s R : Nat) : Int) &&& ~~~(BitVec.ofInt 64 9218868437227405312)).toNat : Int) = _
  rw [BitVec.toNat_and, toNat_of _ hw, BitVec.toNat_not, show (BitVec.ofInt 64 (9218868437227405312 : Int)).toNat = 9218868437227405312 by decide, show 2 ^ 64 - 1 - 9218868437227405312 = 9227875636482146303 by decide, and_mask hw]
  have e : Ieee.double.word s R / 2 ^ 63 * 2 ^ 63 + Ieee.double.word s R % 2 ^ 52 = Ieee.double.word s (R % 2 ^ 52) := by
    rw [word_eq, word_eq]
    cases s
    · simp only [Bool.false_eq_true, if_false]
      rw [Nat.div_eq_of_lt h]; omega
    · simp only [if_true]; omega
  rw [e]
  exact wrap_u64 (word_lt' (by omega))
/-- An exponent is put in. -/
theorem or_exp (s : Bool) {F f : Nat} (hF : F < 2047) (hf : f < 2 ^ 52) : bits .or .u64 ((Ieee.double.word s f : Nat) : Int) ((F * 2 ^ 52 : Nat) : Int) = ((Ieee.double.word s (F * 2 ^ 52 + f) : Nat) : Int) := by
  have hw : Ieee.double.word s f < 2 ^ 64 := word_lt' (by omega)
  rw [or64 hw (by omega)]
  congr 1
  have key : ∀ x, x < 2 ^ 63 → Ieee.double.word s x = sgn s ||| x := by
    intro x hx
    rw [word_eq]
    unfold sgn
    cases s
    · simp
    · simp only [if_true]
      have := Nat.two_pow_add_eq_or_of_lt hx 1
      rw [Nat.mul_one] at this
      exact this
  rw [key _ (by omega), key _ (by omega), Nat.or_assoc]
  congr 1
  rw [Nat.or_comm, Nat.mul_comm F, ← Nat.two_pow_add_eq_or_of_lt hf F]

theorem absLt {x : Nat} (hn : nanW x = false) : (FloatKind.f64.format.order (lowN x) 4503599627370496 == some .lt) = decide (rung x < 2 ^ 52) := by
  show (Ieee.double.order (x % 2 ^ 63) 4503599627370496 == some .lt) = _
  have hr : rung (x % 2 ^ 63) = rung x := by unfold rung; rw [Nat.mod_mod]
  have hl := rung_lt x
  have h1 := nan_false hn
  rw [order_eq (by rw [hr]; exact h1) (by decide), cmp_lt]
  have e1 : isNeg (x % 2 ^ 63) = false := by rw [isNeg_iff (by omega)]; exact decide_eq_false (by omega)
  have i1 : ival (x % 2 ^ 63) = val (rung x) := by unfold ival; rw [e1, hr]; rfl
  have i2 : ival 4503599627370496 = val (2 ^ 52) := by
    unfold ival
    rw [show isNeg 4503599627370496 = false by decide, show rung 4503599627370496 = 2 ^ 52 by decide]
    rfl
  rw [i1, i2]
  by_cases h : rung x < 2 ^ 52
  · have := val_lt h
    rw [decide_eq_true h, decide_eq_true (by omega)]
  · have := val_le (show 2 ^ 52 ≤ rung x by omega)
    rw [decide_eq_false h, decide_eq_false (by omega)]
theorem knormal {x : Nat} (hx : x < 2 ^ 64) (hf : rung x < infR) (h0 : rung x ≠ 0) (w : World) :
    Kn 107 #[.float .f64 x] w (.tuple #[.float .f64 (Ieee.double.word (isNeg x) (nrR (rung x))), .int .i64 (nrE (rung x))]) := by
  have hn : nanW x = false := nan_of (by omega)
  have hl := absLt hn
  have K := Lib.hid (kmabs hx w)
  by_cases h : rung x < 2 ^ 52
  · rw [decide_eq_true h] at hl
    obtain ⟨r, n, hr, hb⟩ := run_float .mul (.inr (.inr (.inl rfl))) x 4841369599423283200 w
    have hm : bitsW r = Ieee.double.word (isNeg x) (nrR (rung x)) := by
      rw [hb]
      exact nr_mul h h0
    obtain ⟨a1, a2, a3, a4, a5, a6⟩ := nr_spec h0 hf
    have hrr := bitsW_inj hm (nan_word (by omega))
    rw [hrr] at hr
    obtain ⟨Y, hY⟩ : ∃ Y, Ieee.double.word (isNeg x) (nrR (rung x)) = Y := ⟨_, rfl⟩
    have he : nrE (rung x) = -52 := by unfold nrE; rw [if_pos h]
    rw [hY] at hr ⊢
    rw [he]
    clear hY he hm hb hrr a1 a2 a3 a4 a5 a6 h h0 hn hf
    go_enter Tryz.func107, Tryz.ntmps107
    go_wp2_with (go_at_call 91; refine (K.out).mono ?_; rintro e wz ⟨rfl, hw1⟩; have hw2 := hw1.symm; clear hw1; subst hw2)
    go_ret2
    exact ⟨rfl, n, rfl⟩
  · rw [decide_eq_false h] at hl
    have he : nrE (rung x) = 0 := by unfold nrE; rw [if_neg h]
    have hw : Ieee.double.word (isNeg x) (nrR (rung x)) = x := by unfold nrR; rw [if_neg h, word_split hx]
    rw [he, hw]
    clear he hw h h0 hn hf
    go_enter Tryz.func107, Tryz.ntmps107
    go_wp2_with (go_at_call 91; refine (K.out).mono ?_; rintro e wz ⟨rfl, hw1⟩; have hw2 := hw1.symm; clear hw1; subst hw2)
    go_ret2
    exact ⟨rfl, 0, rfl⟩
end Go.Proofs.YtoodbdjmbicaeaaGreatDoor
