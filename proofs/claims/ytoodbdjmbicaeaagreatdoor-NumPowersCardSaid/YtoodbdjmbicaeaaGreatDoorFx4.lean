/- What is left of a division of floats: the loop. No condition. -/
import Derived.Test.YtoodbdjmbicaeaaGreatDoorFx3
import Derived.Test.YtoodbdjmbicaeaaGreatDoorP3
namespace Go.Proofs.YtoodbdjmbicaeaaGreatDoor
open Go.RowKit
set_option maxRecDepth 20000
set_option maxHeartbeats 2000000
set_option linter.unusedVariables false
set_option linter.unusedSimpArgs false

theorem plain_word {R : Nat} (h : R < 2 ^ 63) : rung R = R ∧ isNeg R = false ∧ Ieee.double.word false R = R := by
  refine ⟨Nat.mod_eq_of_lt h, ?_, ?_⟩
  · rw [isNeg_iff (by omega)]; exact decide_eq_false (by omega)
  · rw [word_eq]; rfl
theorem ival_plain {R : Nat} (h : R < 2 ^ 63) : ival R = val R := by
  unfold ival
  rw [(plain_word h).1, (plain_word h).2.1]
  rfl
theorem ge_plain {R y : Nat} (hR : R ≤ infR) (hy : y ≤ infR) : (FloatKind.f64.format.order R y == some .gt || FloatKind.f64.format.order R y == some .eq) = decide (val y ≤ val R) := by
  have hi := infR_lt
  show (Ieee.double.order R y == some .gt || Ieee.double.order R y == some .eq) = _
  rw [order_eq (by rw [(plain_word (by omega)).1]; exact hR) (by rw [(plain_word (by omega)).1]; exact hy), cmp_ge, ival_plain (by omega), ival_plain (by omega)]
  by_cases h : val y ≤ val R
  · rw [decide_eq_true h, decide_eq_true (by omega)]
  · rw [decide_eq_false h, decide_eq_false (by omega)]
theorem lt_plain {R y : Nat} (hR : R ≤ infR) (hy : y ≤ infR) : (FloatKind.f64.format.order R y == some .lt) = decide (R < y) := by
  have hi := infR_lt
  show (Ieee.double.order R y == some .lt) = _
  rw [order_eq (by rw [(plain_word (by omega)).1]; exact hR) (by rw [(plain_word (by omega)).1]; exact hy), cmp_lt, ival_plain (by omega), ival_plain (by omega)]
  by_cases h : R < y
  · have := val_lt h
    rw [decide_eq_true h, decide_eq_true (by omega)]
  · have := val_le (show y ≤ R by omega)
    rw [decide_eq_false h, decide_eq_false (by omega)]
theorem frac_plain {R : Nat} (h0 : R ≠ 0) (hf : R < infR) : fracW R = 1022 * 2 ^ 52 + frv R ∧ 1022 * 2 ^ 52 + frv R ≤ infR := by
  have hi := infR_lt
  have h1 := infR_eq
  have h2 := (nr_spec h0 hf).2.2.2.2.1
  obtain ⟨a, b, _⟩ := plain_word (show R < 2 ^ 63 by omega)
  unfold fracW
  rw [a, b]
  exact ⟨(plain_word (by omega)).2.2, by omega⟩
theorem sub_plain {R T R' : Nat} (hR : R < infR) (hT : T < infR) (hle : val T ≤ val R) (hR' : val R' = val R - val T) (hi' : R' < infR) : Ieee.double.sub R T = some R' := by
  have hi := infR_lt
  obtain ⟨r1, r2, _⟩ := plain_word (show R < 2 ^ 63 by omega)
  obtain ⟨t1, t2, _⟩ := plain_word (show T < 2 ^ 63 by omega)
  have hT64 : T < 2 ^ 64 := by omega
  rw [sub_flip hT64]
  obtain ⟨r, hr, e⟩ := add_fin (a := R) (b := flip T) (by rw [r1]; exact hR) (by rw [rung_flip hT64, t1]; exact hT)
  rw [ival_flip hT64, ival_plain (by omega), ival_plain (by omega)] at hr e
  have habs : ((val R : Int) + -(val T : Int)).natAbs = val R' := by omega
  rw [habs] at hr
  have hrr := Near.ofVal hr
  rw [e, hrr, Nat.min_eq_left (by omega), r2, isNeg_flip hT64, t2]
  have hs : (if (val R : Int) + -(val T : Int) = 0 then false && !false else decide ((val R : Int) + -(val T : Int) < 0)) = false := by
    split
    · rfl
    · exact decide_eq_false (by omega)
  rw [hs, (plain_word (by omega)).2.2]
theorem negF (a : Nat) (ha : a < 2 ^ 64) : Op.negFloat .f64 a = flip a := xor_flip ha
theorem negU {a : Nat} (ha : a < 2 ^ 64) : Op.unary .neg (.float .f64 a) = (pure (.float .f64 (flip a)) : Sem Value) := by
  show (pure (.float .f64 (Op.negFloat .f64 a)) : Sem Value) = _
  rw [negF a ha]
end Go.Proofs.YtoodbdjmbicaeaaGreatDoor
