/- The document's Order, Min, Max, Nearest; the program's Min, Max, Nearest. No condition. -/
import Derived.Test.YtoodbdjmbicaeaaGreatDoorGm2
namespace Go.Proofs.YtoodbdjmbicaeaaGreatDoor
open Go.RowKit
set_option maxRecDepth 8000
set_option maxHeartbeats 1000000
set_option linter.unusedVariables false
set_option linter.unusedSimpArgs false

theorem eqI {a b : Nat} (h : a = b) : ((a : Int) == (b : Int)) = true := by rw [h]; exact beq_self_eq_true _
theorem neI {a b : Nat} (h : a ≠ b) : ((a : Int) == (b : Int)) = false := by simpa using fun h2 : (a : Int) = b => h (by omega)
theorem order_of {a b : Nat} (na : nanW a = false) (nb : nanW b = false) (hc : cmpC a b = 0) (h : a ≠ b) (ha : a < 2 ^ 64) (hb : b < 2 ^ 64) : ordV a b = if isNeg a then -1 else 1 := by
  rw [(cmp_not na nb).1] at hc
  have hi : ival a = ival b := by
    by_cases h1 : ival a < ival b
    · rw [if_pos h1] at hc; omega
    · rw [if_neg h1] at hc
      by_cases h2 : ival b < ival a
      · rw [if_pos h2] at hc; omega
      · omega
  have same : isNeg a ≠ isNeg b := by
    intro hs
    apply h
    have hv : rung a = rung b := by
      apply val_inj
      unfold ival at hi
      rw [hs] at hi
      cases hb : isNeg b
      · rw [hb] at hi; simp only [Bool.false_eq_true, if_false] at hi; omega
      · rw [hb] at hi; simp only [if_true] at hi; omega
    rw [← word_split ha, ← word_split hb, hs, hv]
  unfold ordV plP
  rw [na, nb]
  cases sa : isNeg a <;> cases sb : isNeg b
  · exact absurd (by rw [sa, sb]) same
  · simp
  · simp
  · exact absurd (by rw [sa, sb]) same
theorem ord_nan1 {a b : Nat} (na : nanW a = true) (nb : nanW b = false) : ordV a b = -1 := by
  unfold ordV plP
  rw [na, nb]
  cases isNeg b <;> simp
theorem ord_nan2 {a b : Nat} (na : nanW a = false) (nb : nanW b = true) : ordV a b = 1 := by
  unfold ordV plP
  rw [na, nb]
  cases isNeg a <;> simp
theorem ord_nan3 {a b : Nat} (na : nanW a = true) (nb : nanW b = true) : ordV a b = if a < b then -1 else if b < a then 1 else 0 := by
  unfold ordV plP plX
  rw [na, nb]
  simp
theorem lt_ord {a b : Nat} : (FloatKind.f64.format.order b a == some .lt) = decide (0 < cmpC a b) ∧ (FloatKind.f64.format.order b a == some .gt) = decide (cmpC a b < 0) := by
  by_cases hn : nanW a = true ∨ nanW b = true
  · have h : FloatKind.f64.format.order b a = none := order_nan (hn.symm.imp of_decide_eq_true of_decide_eq_true)
    rw [h, (cmp_nan hn).1]
    exact ⟨rfl, rfl⟩
  · have na : nanW a = false := by cases h : nanW a; rfl; exact absurd (.inl h) hn
    have nb : nanW b = false := by cases h : nanW b; rfl; exact absurd (.inr h) hn
    have h : FloatKind.f64.format.order b a = some (compare (ival b) (ival a)) := order_eq (nan_false nb) (nan_false na)
    rw [h, (cmp_not na nb).1]
    show ((some (compareOfLessAndEq (ival b) (ival a))) == some .lt) = _ ∧ ((some (compareOfLessAndEq (ival b) (ival a))) == some .gt) = _
    unfold compareOfLessAndEq
    by_cases h1 : ival b < ival a
    · rw [if_pos h1, if_neg (by omega), if_pos h1]; exact ⟨rfl, rfl⟩
    · rw [if_neg h1]
      by_cases h2 : ival b = ival a
      · rw [if_pos h2, if_neg (by omega), if_neg (by omega)]; exact ⟨rfl, rfl⟩
      · rw [if_neg h2, if_pos (by omega)]; exact ⟨rfl, rfl⟩
def minW (a b : Nat) : Nat := if nanW a && nanW b then theNaN else if nanW a || decide (0 < cmpC a b) then b else a
def maxW (a b : Nat) : Nat := if nanW a && nanW b then theNaN else if nanW a || decide (cmpC a b < 0) then b else a
theorem min_num {a b : Nat} (na : nanW a = false) : minW a b = if 0 < cmpC a b then b else a := by
  unfold minW; rw [na]; simp
theorem max_num {a b : Nat} (na : nanW a = false) : maxW a b = if cmpC a b < 0 then b else a := by
  unfold maxW; rw [na]; simp
theorem min_nans {a b : Nat} (na : nanW a = true) (nb : nanW b = true) : minW a b = theNaN ∧ maxW a b = theNaN := by
  unfold minW maxW; rw [na, nb]; exact ⟨rfl, rfl⟩
theorem min_nan {a b : Nat} (na : nanW a = true) (nb : nanW b = false) : minW a b = b ∧ maxW a b = b := by
  unfold minW maxW; rw [na, nb]; simp
theorem wayV_lt {way : Ieee.Toward} (hw : way ≠ .even) {a : Nat} (ha : a < 2 ^ 64) : wayV way a < 2 ^ 64 := by
  cases na : nanW a
  · by_cases ia : rung a = infR
    · rw [wayV_inf ha ia]; exact ha
    · obtain ⟨r, h1, h2, _⟩ := wayV_fin hw (Nat.lt_of_le_of_ne (nan_false na) ia)
      rw [h2]; exact word_lt' (Nat.lt_trans h1 infR_lt)
  · rw [wayV_nan na]; exact theNaN_lt

def nearW (a b : Nat) : Nat := opt (Ieee.double.div (wayV .down (opt (Ieee.double.add (opt (Ieee.double.mul a (opt (Ieee.double.div 4607182418800017408 b)))) 4602678819172646912))) (opt (Ieee.double.div 4607182418800017408 b)))
theorem div_lt64 (a b : Nat) : opt (Ieee.double.div a b) < 2 ^ 64 := opt_lt fun r h => Ieee.double.div_lt h
theorem mul_lt64 (a b : Nat) : opt (Ieee.double.mul a b) < 2 ^ 64 := opt_lt fun r h => Ieee.double.mul_lt h
theorem add_lt64 (a b : Nat) : opt (Ieee.double.add a b) < 2 ^ 64 := opt_lt fun r h => Ieee.double.add_lt h
theorem sub_lt64 (a b : Nat) : opt (Ieee.double.sub a b) < 2 ^ 64 := opt_lt fun r h => Ieee.double.sub_lt h
end Go.Proofs.YtoodbdjmbicaeaaGreatDoor
