/- Mod of any numbers. No condition. -/
import Derived.Test.YtoodbdjmbicaeaaGreatDoorFx5
namespace Go.Proofs.YtoodbdjmbicaeaaGreatDoor
open Go.RowKit
set_option maxRecDepth 8000
set_option maxHeartbeats 1000000
set_option linter.unusedVariables false
set_option linter.unusedSimpArgs false

theorem flip_rung {a : Nat} (ha : a < 2 ^ 64) (hs : isNeg a = true) : flip a = rung a := by
  rw [isNeg_iff ha] at hs
  have := of_decide_eq_true hs
  unfold flip rung
  rw [if_neg (by omega)]
  omega
theorem pos_rung {a : Nat} (ha : a < 2 ^ 64) (hs : isNeg a = false) : a = rung a := by
  rw [isNeg_iff ha] at hs
  have := of_decide_eq_false hs
  unfold rung
  omega
theorem abs_way {a : Nat} (ha : a < 2 ^ 64) : rung a = if isNeg a then flip a else a := by
  cases hsn : isNeg a
  · rw [if_neg (by decide)]; exact (pos_rung ha hsn).symm
  · rw [if_pos rfl]; exact (flip_rung ha hsn).symm
theorem way_abs {a : Nat} (ha : a < 2 ^ 64) : a = if isNeg a then flip (rung a) else rung a := by
  cases hsn : isNeg a
  · rw [if_neg (by decide)]; exact pos_rung ha hsn
  · rw [if_pos rfl, ← flip_rung ha hsn, flip_flip ha]
theorem ge_false {r y : Nat} (hr : rung r ≤ infR) (hy : y ≤ infR) (h : ival r < (val y : Int)) : (FloatKind.f64.format.order r y == some .gt || FloatKind.f64.format.order r y == some .eq) = false := by
  have hi := infR_lt
  show (Ieee.double.order r y == some .gt || Ieee.double.order r y == some .eq) = _
  rw [order_eq hr (by rw [(plain_word (by omega)).1]; exact hy), cmp_ge, ival_plain (by omega)]
  exact decide_eq_false (by omega)
theorem modW_nan {a b : Nat} (h : nanW a = true ∨ nanW b = true ∨ rung a = infR ∨ rung b = 0) : modW a b = theNaN := by
  unfold modW
  exact if_pos h
theorem modW_num {a b : Nat} (h1 : nanW a = false) (h2 : nanW b = false) (h3 : rung a ≠ infR) (h4 : rung b ≠ 0) : modW a b = Ieee.double.word (isNeg a) (modR (rung a) (rung b)) := by
  unfold modW
  refine if_neg ?_
  rintro (h | h | h | h)
  · rw [h1] at h; cases h
  · rw [h2] at h; cases h
  · exact h3 h
  · exact h4 h
theorem eqNan {b : Nat} (nb : nanW b = true) : (FloatKind.f64.format.order b 0 == some .eq) = false := by
  have : FloatKind.f64.format.order b 0 = none := order_nan (.inl (of_decide_eq_true nb))
  rw [this]; rfl
theorem isZ {b : Nat} (hb0 : rung b = 0) : (FloatKind.f64.format.order b 0 == some .eq) = true := by
  rw [(ord_zero (nan_of (by rw [hb0]; exact Nat.zero_le _))).1 hb0]; rfl
theorem ltZ {a : Nat} (na : nanW a = false) (ha0 : rung a = 0) : (FloatKind.f64.format.order a 0 == some .lt) = false := by rw [(ord_zero na).1 ha0]; rfl
theorem ltS {a : Nat} (na : nanW a = false) (ha0 : rung a ≠ 0) : (FloatKind.f64.format.order a 0 == some .lt) = isNeg a := by
  cases hs : isNeg a
  · rw [(ord_zero na).2.2 ha0 hs]; rfl
  · rw [(ord_zero na).2.1 ha0 hs]; rfl
theorem modR_lt {a b : Nat} (ha : a < infR) : modR a b ≤ infR := by
  have h1 := rnd_near (val a % val b) (-1074) 0 0 (by omega)
  have h2 := near_val 0 a
  rw [Nat.pow_zero, Nat.mul_one] at h1 h2
  have h3 : val a % val b ≤ val a := Nat.mod_le _ _
  have := h1.mono h2 h3
  unfold modR
  omega
theorem modW_bits {a b : Nat} : bitsW (modW a b) = modW a b := by
  by_cases h : nanW a ∨ nanW b ∨ rung a = infR ∨ rung b = 0
  · have hm : modW a b = theNaN := by unfold modW; rw [if_pos h]
    rw [hm]; decide
  · have hm : modW a b = Ieee.double.word (isNeg a) (modR (rung a) (rung b)) := by unfold modW; rw [if_neg h]
    rw [hm]
    refine bitsW_of (nan_word (modR_lt ?_))
    have h1 : nanW a = false := by simpa using fun k => h (.inl k)
    have h2 : rung a ≠ infR := fun k => h (.inr (.inr (.inl k)))
    have := nan_false h1
    omega
end Go.Proofs.YtoodbdjmbicaeaaGreatDoor
