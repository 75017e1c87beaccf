/- The document's Order, Min, Max, Nearest; the program's Min, Max, Nearest. No condition. -/
import Derived.Test.YtoodbdjmbicaeaaGm2
namespace Go.Proofs.Ytoodbdjmbicaeaa
open Go.RowKit
set_option maxRecDepth 8000
set_option maxHeartbeats 1000000
set_option linter.unusedVariables false
set_option linter.unusedSimpArgs false

theorem eqI {a b : Nat} (h : a = b) : ((a : Int) == (b : Int)) = true := by rw [h]; exact beq_self_eq_true _
theorem neI {a b : Nat} (h : a ≠ b) : ((a : Int) == (b : Int)) = false := by simpa using fun h2 : (a : Int) = b => h (by omega)
theorem order_of {a b : Nat} (na : nanW a = false) (nb : nanW b = false) (hc : cmpC a b = 0) (h : a ≠ b) (ha : a < 2 ^ 64) (hb : b < 2 ^ 64) : ordV a b = if isNeg a then -1 else 1 := by
  rw [(cmp_not na nb).1] at hc
  have hi : ival a = ival b := by
    by_cases h1 : ival a < ival b
    · rw [if_pos h1] at hc; omega
    · rw [if_neg h1] at hc
      by_cases h2 : ival b < ival a
      · rw [if_pos h2] at hc; omega
      · omega
  have same : isNeg a ≠ isNeg b := by
    intro hs
    apply h
    have hv : rung a = rung b := by
      apply val_inj
      unfold ival at hi
      rw [hs] at hi
      cases hb : isNeg b
      · rw [hb] at hi; simp only [Bool.false_eq_true, if_false] at hi; omega
      · rw [hb] at hi; simp only [if_true] at hi; omega
    rw [← word_split ha, ← word_split hb, hs, hv]
  unfold ordV plP
  rw [na, nb]
  cases sa : isNeg a <;> cases sb : isNeg b
  · exact absurd (by rw [sa, sb]) same
  · simp
  · simp
  · exact absurd (by rw [sa, sb]) same
theorem ord_nan1 {a b : Nat} (na : nanW a = true) (nb : nanW b = false) : ordV a b = -1 := by
  unfold ordV plP
  rw [na, nb]
  cases isNeg b <;> simp
theorem ord_nan2 {a b : Nat} (na : nanW a = false) (nb : nanW b = true) : ordV a b = 1 := by
  unfold ordV plP
  rw [na, nb]
  cases isNeg a <;> simp
theorem ord_nan3 {a b : Nat} (na : nanW a = true) (nb : nanW b = true) : ordV a b = if a < b then -1 else if b < a then 1 else 0 := by
  unfold ordV plP plX
  rw [na, nb]
  simp
theorem lt_ord {a b : Nat} : (FloatKind.f64.format.order b a == some .lt) = decide (0 < cmpC a b) ∧ (FloatKind.f64.format.order b a == some .gt) = decide (cmpC a b < 0) := by
  by_cases hn : nanW a = true ∨ nanW b = true
  · have h : FloatKind.f64.format.order b a = none := order_nan (hn.symm.imp of_decide_eq_true of_decide_eq_true)
    rw [h, (cmp_nan hn).1]
    exact ⟨rfl, rfl⟩
  · have na : nanW a = false := by cases h : nanW a; rfl; exact absurd (.inl h) hn
    have nb : nanW b = false := by cases h : nanW b; rfl; exact absurd (.inr h) hn
    have h : FloatKind.f64.format.order b a = some (compare (ival b) (ival a)) := order_eq (nan_false nb) (nan_false na)
    rw [h, (cmp_not na nb).1]
    show ((some (compareOfLessAndEq (ival b) (ival a))) == some .lt) = _ ∧ ((some (compareOfLessAndEq (ival b) (ival a))) == some .gt) = _
    unfold compareOfLessAndEq
    by_cases h1 : ival b < ival a
    · rw [if_pos h1, if_neg (by omega), if_pos h1]; exact ⟨rfl, rfl⟩
    · rw [if_neg h1]
      by_cases h2 : ival b = ival a
      · rw [if_pos h2, if_neg (by omega), if_neg (by omega)]; exact ⟨rfl, rfl⟩
      · rw [if_neg h2, if_pos (by omega)]; exact ⟨rfl, rfl⟩
def minW (a b : Nat) : Nat := if nanW a && nanW b then theNaN else if nanW a || decide (0 < cmpC a b) then b else a
def maxW (a b : Nat) : Nat := if nanW a && nanW b then theNaN else if nanW a || decide (cmpC a b < 0) then b else a
theorem min_num {a b : Nat} (na : nanW a = false) : minW a b = if 0 < cmpC a b then b else a := by
  unfold minW; rw [na]; simp
theorem max_num {a b : Nat} (na : nanW a = false) : maxW a b = if cmpC a b < 0 then b else a := by
  unfold maxW; rw [na]; simp
theorem min_nans {a b : Nat} (na : nanW a = true) (nb : nanW b = true) : minW a b = theNaN ∧ maxW a b = theNaN := by
  unfold minW maxW; rw [na, nb]; exact ⟨rfl, rfl⟩
theorem min_nan {a b : Nat} (na : nanW a = true) (nb : nanW b = false) : minW a b = b ∧ maxW a b = b := by
  unfold minW maxW; rw [na, nb]; simp
theorem wayV_lt {way : Ieee.Toward} (hw : way ≠ .even) {a : Nat} (ha : a < 2 ^ 64) : wayV way a < 2 ^ 64 := by
  cases na : nanW a
  · by_cases ia : rung a = infR
    · rw [wayV_inf ha ia]; exact ha
    · obtain ⟨r, h1, h2, _⟩ := wayV_fin hw (Nat.lt_of_le_of_ne (nan_false na) ia)
      rw [h2]; exact word_lt' (Nat.lt_trans h1 infR_lt)
  · rw [wayV_nan na]; exact theNaN_lt

theorem krord1 (a b : Nat) (ha : a < 2 ^ 64) (hb : b < 2 ^ 64) (w : World) (na : nanW a = true) (nb : nanW b = false) : Kb 64 #[wd a, wd b] w (.int .i64 (-1)) := by
  go_enter Try.func64, Try.ntmps64
  go_wp2_with (first
    | (go_at_call 44; refine (krNaN (by assumption) _).mono ?_; rintro e wz ⟨rfl, hw1⟩; have hw2 := hw1.symm; clear hw1; subst hw2)
    | (go_at_call 45; refine (krInfQ (by assumption) _).mono ?_; rintro e wz ⟨rfl, hw1⟩; have hw2 := hw1.symm; clear hw1; subst hw2)
    | (go_at_call 78; refine (krNeg0 (by assumption) _).mono ?_; rintro e wz ⟨rfl, hw1⟩; have hw2 := hw1.symm; clear hw1; subst hw2)
    | (go_at_call 77; refine (krNought (by assumption) _).mono ?_; rintro e wz ⟨rfl, hw1⟩; have hw2 := hw1.symm; clear hw1; subst hw2))
  go_ret
  exact ⟨rfl, Below.refl _ _⟩

theorem krord2 (a b : Nat) (ha : a < 2 ^ 64) (hb : b < 2 ^ 64) (w : World) (na : nanW a = false) (nb : nanW b = true) : Kb 64 #[wd a, wd b] w (.int .i64 1) := by
  go_enter Try.func64, Try.ntmps64
  go_wp2_with (first
    | (go_at_call 44; refine (krNaN (by assumption) _).mono ?_; rintro e wz ⟨rfl, hw1⟩; have hw2 := hw1.symm; clear hw1; subst hw2)
    | (go_at_call 45; refine (krInfQ (by assumption) _).mono ?_; rintro e wz ⟨rfl, hw1⟩; have hw2 := hw1.symm; clear hw1; subst hw2)
    | (go_at_call 78; refine (krNeg0 (by assumption) _).mono ?_; rintro e wz ⟨rfl, hw1⟩; have hw2 := hw1.symm; clear hw1; subst hw2)
    | (go_at_call 77; refine (krNought (by assumption) _).mono ?_; rintro e wz ⟨rfl, hw1⟩; have hw2 := hw1.symm; clear hw1; subst hw2))
  go_ret
  exact ⟨rfl, Below.refl _ _⟩

theorem krord3 (a b : Nat) (ha : a < 2 ^ 64) (hb : b < 2 ^ 64) (w : World) (na : nanW a = true) (nb : nanW b = true) (hlt : (a : Int) < (b : Int)) : Kb 64 #[wd a, wd b] w (.int .i64 (-1)) := by
  go_enter Try.func64, Try.ntmps64
  go_wp2_with (first
    | (go_at_call 44; refine (krNaN (by assumption) _).mono ?_; rintro e wz ⟨rfl, hw1⟩; have hw2 := hw1.symm; clear hw1; subst hw2)
    | (go_at_call 45; refine (krInfQ (by assumption) _).mono ?_; rintro e wz ⟨rfl, hw1⟩; have hw2 := hw1.symm; clear hw1; subst hw2)
    | (go_at_call 78; refine (krNeg0 (by assumption) _).mono ?_; rintro e wz ⟨rfl, hw1⟩; have hw2 := hw1.symm; clear hw1; subst hw2)
    | (go_at_call 77; refine (krNought (by assumption) _).mono ?_; rintro e wz ⟨rfl, hw1⟩; have hw2 := hw1.symm; clear hw1; subst hw2))
  go_ret
  exact ⟨rfl, Below.refl _ _⟩

theorem krord4 (a b : Nat) (ha : a < 2 ^ 64) (hb : b < 2 ^ 64) (w : World) (na : nanW a = true) (nb : nanW b = true) (hlt : ¬ (a : Int) < (b : Int)) (hgt : (b : Int) < (a : Int)) : Kb 64 #[wd a, wd b] w (.int .i64 1) := by
  go_enter Try.func64, Try.ntmps64
  go_wp2_with (first
    | (go_at_call 44; refine (krNaN (by assumption) _).mono ?_; rintro e wz ⟨rfl, hw1⟩; have hw2 := hw1.symm; clear hw1; subst hw2)
    | (go_at_call 45; refine (krInfQ (by assumption) _).mono ?_; rintro e wz ⟨rfl, hw1⟩; have hw2 := hw1.symm; clear hw1; subst hw2)
    | (go_at_call 78; refine (krNeg0 (by assumption) _).mono ?_; rintro e wz ⟨rfl, hw1⟩; have hw2 := hw1.symm; clear hw1; subst hw2)
    | (go_at_call 77; refine (krNought (by assumption) _).mono ?_; rintro e wz ⟨rfl, hw1⟩; have hw2 := hw1.symm; clear hw1; subst hw2))
  go_ret
  exact ⟨rfl, Below.refl _ _⟩

theorem krord5 (a b : Nat) (ha : a < 2 ^ 64) (hb : b < 2 ^ 64) (w : World) (na : nanW a = true) (nb : nanW b = true) (hlt : ¬ (a : Int) < (b : Int)) (hgt : ¬ (b : Int) < (a : Int)) : Kb 64 #[wd a, wd b] w (.int .i64 0) := by
  go_enter Try.func64, Try.ntmps64
  go_wp2_with (first
    | (go_at_call 44; refine (krNaN (by assumption) _).mono ?_; rintro e wz ⟨rfl, hw1⟩; have hw2 := hw1.symm; clear hw1; subst hw2)
    | (go_at_call 45; refine (krInfQ (by assumption) _).mono ?_; rintro e wz ⟨rfl, hw1⟩; have hw2 := hw1.symm; clear hw1; subst hw2)
    | (go_at_call 78; refine (krNeg0 (by assumption) _).mono ?_; rintro e wz ⟨rfl, hw1⟩; have hw2 := hw1.symm; clear hw1; subst hw2)
    | (go_at_call 77; refine (krNought (by assumption) _).mono ?_; rintro e wz ⟨rfl, hw1⟩; have hw2 := hw1.symm; clear hw1; subst hw2))
  go_ret
  exact ⟨rfl, Below.refl _ _⟩

theorem krord6 (a b : Nat) (ha : a < 2 ^ 64) (hb : b < 2 ^ 64) (w : World) (na : nanW a = false) (nb : nanW b = false) (Z : Int) (k : Bool) (kc : Kb 63 #[wd a, wd b] w (.tuple #[.int .i64 Z, .bool k])) (hz : (Z == 0) = false) : Kb 64 #[wd a, wd b] w (.int .i64 Z) := by
  have KC := Lib.hid kc
  clear kc
  go_enter Try.func64, Try.ntmps64
  go_wp2_with (first
    | (go_at_call 44; refine (krNaN (by assumption) _).mono ?_; rintro e wz ⟨rfl, hw1⟩; have hw2 := hw1.symm; clear hw1; subst hw2)
    | (go_at_call 45; refine (krInfQ (by assumption) _).mono ?_; rintro e wz ⟨rfl, hw1⟩; have hw2 := hw1.symm; clear hw1; subst hw2)
    | (go_at_call 78; refine (krNeg0 (by assumption) _).mono ?_; rintro e wz ⟨rfl, hw1⟩; have hw2 := hw1.symm; clear hw1; subst hw2)
    | (go_at_call 77; refine (krNought (by assumption) _).mono ?_; rintro e wz ⟨rfl, hw1⟩; have hw2 := hw1.symm; clear hw1; subst hw2)
    | (go_at_call 63; refine (KC.out).mono ?_; rintro e wk ⟨rfl, bk⟩; have BL := Lib.hid bk; clear bk))
  go_ret
  exact ⟨rfl, BL.out⟩

theorem krord7 (a b : Nat) (ha : a < 2 ^ 64) (hb : b < 2 ^ 64) (w : World) (na : nanW a = false) (nb : nanW b = false) (Z : Int) (k : Bool) (kc : Kb 63 #[wd a, wd b] w (.tuple #[.int .i64 Z, .bool k])) (hz : (Z == 0) = true) (hab : ((a : Int) == (b : Int)) = true) : Kb 64 #[wd a, wd b] w (.int .i64 Z) := by
  have KC := Lib.hid kc
  clear kc
  go_enter Try.func64, Try.ntmps64
  go_wp2_with (first
    | (go_at_call 44; refine (krNaN (by assumption) _).mono ?_; rintro e wz ⟨rfl, hw1⟩; have hw2 := hw1.symm; clear hw1; subst hw2)
    | (go_at_call 45; refine (krInfQ (by assumption) _).mono ?_; rintro e wz ⟨rfl, hw1⟩; have hw2 := hw1.symm; clear hw1; subst hw2)
    | (go_at_call 78; refine (krNeg0 (by assumption) _).mono ?_; rintro e wz ⟨rfl, hw1⟩; have hw2 := hw1.symm; clear hw1; subst hw2)
    | (go_at_call 77; refine (krNought (by assumption) _).mono ?_; rintro e wz ⟨rfl, hw1⟩; have hw2 := hw1.symm; clear hw1; subst hw2)
    | (go_at_call 63; refine (KC.out).mono ?_; rintro e wk ⟨rfl, bk⟩; have BL := Lib.hid bk; clear bk))
  go_ret
  exact ⟨rfl, BL.out⟩

theorem krord8 (a b : Nat) (ha : a < 2 ^ 64) (hb : b < 2 ^ 64) (w : World) (na : nanW a = false) (nb : nanW b = false) (Z : Int) (k : Bool) (kc : Kb 63 #[wd a, wd b] w (.tuple #[.int .i64 Z, .bool k])) (hz : (Z == 0) = true) (hab : ((a : Int) == (b : Int)) = false) (sa : isNeg a = true) : Kb 64 #[wd a, wd b] w (.int .i64 (-1)) := by
  have KC := Lib.hid kc
  clear kc
  go_enter Try.func64, Try.ntmps64
  go_wp2_with (first
    | (go_at_call 44; refine (krNaN (by assumption) _).mono ?_; rintro e wz ⟨rfl, hw1⟩; have hw2 := hw1.symm; clear hw1; subst hw2)
    | (go_at_call 45; refine (krInfQ (by assumption) _).mono ?_; rintro e wz ⟨rfl, hw1⟩; have hw2 := hw1.symm; clear hw1; subst hw2)
    | (go_at_call 78; refine (krNeg0 (by assumption) _).mono ?_; rintro e wz ⟨rfl, hw1⟩; have hw2 := hw1.symm; clear hw1; subst hw2)
    | (go_at_call 77; refine (krNought (by assumption) _).mono ?_; rintro e wz ⟨rfl, hw1⟩; have hw2 := hw1.symm; clear hw1; subst hw2)
    | (go_at_call 63; refine (KC.out).mono ?_; rintro e wk ⟨rfl, bk⟩; have BL := Lib.hid bk; clear bk))
  go_ret
  exact ⟨rfl, BL.out⟩

theorem krord9 (a b : Nat) (ha : a < 2 ^ 64) (hb : b < 2 ^ 64) (w : World) (na : nanW a = false) (nb : nanW b = false) (Z : Int) (k : Bool) (kc : Kb 63 #[wd a, wd b] w (.tuple #[.int .i64 Z, .bool k])) (hz : (Z == 0) = true) (hab : ((a : Int) == (b : Int)) = false) (sa : isNeg a = false) : Kb 64 #[wd a, wd b] w (.int .i64 1) := by
  have KC := Lib.hid kc
  clear kc
  go_enter Try.func64, Try.ntmps64
  go_wp2_with (first
    | (go_at_call 44; refine (krNaN (by assumption) _).mono ?_; rintro e wz ⟨rfl, hw1⟩; have hw2 := hw1.symm; clear hw1; subst hw2)
    | (go_at_call 45; refine (krInfQ (by assumption) _).mono ?_; rintro e wz ⟨rfl, hw1⟩; have hw2 := hw1.symm; clear hw1; subst hw2)
    | (go_at_call 78; refine (krNeg0 (by assumption) _).mono ?_; rintro e wz ⟨rfl, hw1⟩; have hw2 := hw1.symm; clear hw1; subst hw2)
    | (go_at_call 77; refine (krNought (by assumption) _).mono ?_; rintro e wz ⟨rfl, hw1⟩; have hw2 := hw1.symm; clear hw1; subst hw2)
    | (go_at_call 63; refine (KC.out).mono ?_; rintro e wk ⟨rfl, bk⟩; have BL := Lib.hid bk; clear bk))
  go_ret
  exact ⟨rfl, BL.out⟩

theorem krOrder {a b : Nat} (ha : a < 2 ^ 64) (hb : b < 2 ^ 64) (w : World) : Kb 64 #[wd a, wd b] w (.int .i64 (ordV a b)) := by
  cases na : nanW a <;> cases nb : nanW b
  · have kc := krCmp ha hb w
    by_cases hz : cmpC a b = 0
    · by_cases hab : a = b
      · have h : ordV a b = cmpC a b := by rw [hz]; exact (order_law ha hb hb).2.1.2 hab
        rw [h]
        exact krord7 a b ha hb w na nb _ _ kc (by rw [hz]; rfl) (eqI hab)
      · rw [order_of na nb hz hab ha hb]
        cases sa : isNeg a
        · exact krord9 a b ha hb w na nb _ _ kc (by rw [hz]; rfl) (neI hab) sa
        · exact krord8 a b ha hb w na nb _ _ kc (by rw [hz]; rfl) (neI hab) sa
    · have h : ordV a b = cmpC a b := ((order_law ha hb hb).2.2.2.2.2.2.2.1.resolve_left hz).symm
      rw [h]
      exact krord6 a b ha hb w na nb _ _ kc (by simpa using hz)
  · rw [ord_nan2 na nb]; exact krord2 a b ha hb w na nb
  · rw [ord_nan1 na nb]; exact krord1 a b ha hb w na nb
  · rw [ord_nan3 na nb]
    by_cases h1 : a < b
    · rw [if_pos h1]; exact krord3 a b ha hb w na nb (by omega)
    · rw [if_neg h1]
      by_cases h2 : b < a
      · rw [if_pos h2]; exact krord4 a b ha hb w na nb (by omega) (by omega)
      · rw [if_neg h2]; exact krord5 a b ha hb w na nb (by omega) (by omega)

theorem krmin1 (a b : Nat) (ha : a < 2 ^ 64) (hb : b < 2 ^ 64) (w : World) (na : nanW a = true) (nb : nanW b = true) : Kb 58 #[wd a, wd b] w (wd theNaN) := by
  go_enter Try.func58, Try.ntmps58
  go_wp2_with (first
    | (go_at_call 44; refine (krNaN (by assumption) _).mono ?_; rintro e wz ⟨rfl, hw1⟩; have hw2 := hw1.symm; clear hw1; subst hw2)
    | (go_at_call 45; refine (krInfQ (by assumption) _).mono ?_; rintro e wz ⟨rfl, hw1⟩; have hw2 := hw1.symm; clear hw1; subst hw2)
    | (go_at_call 78; refine (krNeg0 (by assumption) _).mono ?_; rintro e wz ⟨rfl, hw1⟩; have hw2 := hw1.symm; clear hw1; subst hw2)
    | (go_at_call 77; refine (krNought (by assumption) _).mono ?_; rintro e wz ⟨rfl, hw1⟩; have hw2 := hw1.symm; clear hw1; subst hw2))
  go_ret
  exact ⟨rfl, Below.refl _ _⟩

theorem krmin2 (a b : Nat) (ha : a < 2 ^ 64) (hb : b < 2 ^ 64) (w : World) (na : nanW a = true) (nb : nanW b = false) : Kb 58 #[wd a, wd b] w (wd b) := by
  go_enter Try.func58, Try.ntmps58
  go_wp2_with (first
    | (go_at_call 44; refine (krNaN (by assumption) _).mono ?_; rintro e wz ⟨rfl, hw1⟩; have hw2 := hw1.symm; clear hw1; subst hw2)
    | (go_at_call 45; refine (krInfQ (by assumption) _).mono ?_; rintro e wz ⟨rfl, hw1⟩; have hw2 := hw1.symm; clear hw1; subst hw2)
    | (go_at_call 78; refine (krNeg0 (by assumption) _).mono ?_; rintro e wz ⟨rfl, hw1⟩; have hw2 := hw1.symm; clear hw1; subst hw2)
    | (go_at_call 77; refine (krNought (by assumption) _).mono ?_; rintro e wz ⟨rfl, hw1⟩; have hw2 := hw1.symm; clear hw1; subst hw2))
  go_ret
  exact ⟨rfl, Below.refl _ _⟩

theorem krmin3 (a b : Nat) (ha : a < 2 ^ 64) (hb : b < 2 ^ 64) (w : World) (na : nanW a = false) (nb : nanW b = true) : Kb 58 #[wd a, wd b] w (wd a) := by
  go_enter Try.func58, Try.ntmps58
  go_wp2_with (first
    | (go_at_call 44; refine (krNaN (by assumption) _).mono ?_; rintro e wz ⟨rfl, hw1⟩; have hw2 := hw1.symm; clear hw1; subst hw2)
    | (go_at_call 45; refine (krInfQ (by assumption) _).mono ?_; rintro e wz ⟨rfl, hw1⟩; have hw2 := hw1.symm; clear hw1; subst hw2)
    | (go_at_call 78; refine (krNeg0 (by assumption) _).mono ?_; rintro e wz ⟨rfl, hw1⟩; have hw2 := hw1.symm; clear hw1; subst hw2)
    | (go_at_call 77; refine (krNought (by assumption) _).mono ?_; rintro e wz ⟨rfl, hw1⟩; have hw2 := hw1.symm; clear hw1; subst hw2))
  go_ret
  exact ⟨rfl, Below.refl _ _⟩

theorem krmin4 (a b : Nat) (ha : a < 2 ^ 64) (hb : b < 2 ^ 64) (w : World) (na : nanW a = false) (nb : nanW b = false) (Z : Int) (k : Bool) (kc : Kb 63 #[wd a, wd b] w (.tuple #[.int .i64 Z, .bool k])) (hz : 0 < Z) : Kb 58 #[wd a, wd b] w (wd b) := by
  have KC := Lib.hid kc
  clear kc
  go_enter Try.func58, Try.ntmps58
  go_wp2_with (first
    | (go_at_call 44; refine (krNaN (by assumption) _).mono ?_; rintro e wz ⟨rfl, hw1⟩; have hw2 := hw1.symm; clear hw1; subst hw2)
    | (go_at_call 45; refine (krInfQ (by assumption) _).mono ?_; rintro e wz ⟨rfl, hw1⟩; have hw2 := hw1.symm; clear hw1; subst hw2)
    | (go_at_call 78; refine (krNeg0 (by assumption) _).mono ?_; rintro e wz ⟨rfl, hw1⟩; have hw2 := hw1.symm; clear hw1; subst hw2)
    | (go_at_call 77; refine (krNought (by assumption) _).mono ?_; rintro e wz ⟨rfl, hw1⟩; have hw2 := hw1.symm; clear hw1; subst hw2)
    | (go_at_call 63; refine (KC.out).mono ?_; rintro e wk ⟨rfl, bk⟩; have BL := Lib.hid bk; clear bk))
  go_ret
  exact ⟨rfl, BL.out⟩

theorem krmin5 (a b : Nat) (ha : a < 2 ^ 64) (hb : b < 2 ^ 64) (w : World) (na : nanW a = false) (nb : nanW b = false) (Z : Int) (k : Bool) (kc : Kb 63 #[wd a, wd b] w (.tuple #[.int .i64 Z, .bool k])) (hz : ¬ 0 < Z) : Kb 58 #[wd a, wd b] w (wd a) := by
  have KC := Lib.hid kc
  clear kc
  go_enter Try.func58, Try.ntmps58
  go_wp2_with (first
    | (go_at_call 44; refine (krNaN (by assumption) _).mono ?_; rintro e wz ⟨rfl, hw1⟩; have hw2 := hw1.symm; clear hw1; subst hw2)
    | (go_at_call 45; refine (krInfQ (by assumption) _).mono ?_; rintro e wz ⟨rfl, hw1⟩; have hw2 := hw1.symm; clear hw1; subst hw2)
    | (go_at_call 78; refine (krNeg0 (by assumption) _).mono ?_; rintro e wz ⟨rfl, hw1⟩; have hw2 := hw1.symm; clear hw1; subst hw2)
    | (go_at_call 77; refine (krNought (by assumption) _).mono ?_; rintro e wz ⟨rfl, hw1⟩; have hw2 := hw1.symm; clear hw1; subst hw2)
    | (go_at_call 63; refine (KC.out).mono ?_; rintro e wk ⟨rfl, bk⟩; have BL := Lib.hid bk; clear bk))
  go_ret
  exact ⟨rfl, BL.out⟩

theorem krMin {a b : Nat} (ha : a < 2 ^ 64) (hb : b < 2 ^ 64) (w : World) : Kb 58 #[wd a, wd b] w (wd (minW a b)) := by
  cases na : nanW a <;> cases nb : nanW b
  · have kc := krCmp ha hb w
    rw [min_num na]
    by_cases hz : 0 < cmpC a b
    · rw [if_pos hz]; exact krmin4 a b ha hb w na nb _ _ kc hz
    · rw [if_neg hz]; exact krmin5 a b ha hb w na nb _ _ kc hz
  · rw [min_num na, if_neg (by rw [(cmp_nan (.inr nb)).1]; decide)]; exact krmin3 a b ha hb w na nb
  · rw [(min_nan na nb).1]; exact krmin2 a b ha hb w na nb
  · rw [(min_nans na nb).1]; exact krmin1 a b ha hb w na nb

theorem kpick1 (a b : Nat) (t : Bool) (w : World) (na : nanW a = true) (nb : nanW b = true) : Kp 94 #[wd a, wd b, .bool t] w (wd theNaN) := by
  go_enter Try.func94, Try.ntmps94
  go_wp2_with (first
    | (go_at_call 20; refine (kisnan _ _).mono ?_; rintro e wz ⟨rfl, hw1⟩; have hw2 := hw1.symm; clear hw1; subst hw2))
  go_ret
  exact ⟨rfl, rfl⟩

theorem kpick2 (a b : Nat) (t : Bool) (w : World) (na : nanW a = true) (nb : nanW b = false) : Kp 94 #[wd a, wd b, .bool t] w (wd b) := by
  go_enter Try.func94, Try.ntmps94
  go_wp2_with (first
    | (go_at_call 20; refine (kisnan _ _).mono ?_; rintro e wz ⟨rfl, hw1⟩; have hw2 := hw1.symm; clear hw1; subst hw2))
  go_ret
  exact ⟨rfl, rfl⟩

theorem kpick3 (a b : Nat) (w : World) (na : nanW a = false) : Kp 94 #[wd a, wd b, .bool true] w (wd b) := by
  go_enter Try.func94, Try.ntmps94
  go_wp2_with (first
    | (go_at_call 20; refine (kisnan _ _).mono ?_; rintro e wz ⟨rfl, hw1⟩; have hw2 := hw1.symm; clear hw1; subst hw2))
  go_ret
  exact ⟨rfl, rfl⟩

theorem kpick4 (a b : Nat) (w : World) (na : nanW a = false) : Kp 94 #[wd a, wd b, .bool false] w (wd a) := by
  go_enter Try.func94, Try.ntmps94
  go_wp2_with (first
    | (go_at_call 20; refine (kisnan _ _).mono ?_; rintro e wz ⟨rfl, hw1⟩; have hw2 := hw1.symm; clear hw1; subst hw2))
  go_ret
  exact ⟨rfl, rfl⟩

theorem kmin0 (a b v : Nat) (t : Bool) (w : World) (ho : (FloatKind.f64.format.order b a == some .lt) = t) (kp : Kp 94 #[wd a, wd b, .bool t] w (wd v)) : Kp 57 #[wd a, wd b] w (wd v) := by
  have KP := Lib.hid kp
  clear kp
  go_enter Try.func57, Try.ntmps57
  go_wp2_with (first
    | (go_at_call 65; refine (kof _ _).mono ?_; rintro e wz ⟨rfl, hw1⟩; have hw2 := hw1.symm; clear hw1; subst hw2)
    | (go_at_call 94; refine (KP.out).mono ?_; rintro e wz ⟨rfl, hw1⟩; have hw2 := hw1.symm; clear hw1; subst hw2))
  go_ret
  exact ⟨rfl, rfl⟩

theorem kmin (a b : Nat) (w : World) : Kp 57 #[wd a, wd b] w (wd (minW a b)) := by
  cases na : nanW a
  · have hm := min_num (b := b) na
    by_cases hz : 0 < cmpC a b
    · rw [hm, if_pos hz]; exact kmin0 a b _ true w (by rw [lt_ord.1]; exact decide_eq_true hz) (kpick3 a b w na)
    · rw [hm, if_neg hz]; exact kmin0 a b _ false w (by rw [lt_ord.1]; exact decide_eq_false hz) (kpick4 a b w na)
  · cases nb : nanW b
    · rw [(min_nan na nb).1]; exact kmin0 a b _ _ w rfl (kpick2 a b _ w na nb)
    · rw [(min_nans na nb).1]; exact kmin0 a b _ _ w rfl (kpick1 a b _ w na nb)

theorem krmax1 (a b : Nat) (ha : a < 2 ^ 64) (hb : b < 2 ^ 64) (w : World) (na : nanW a = true) (nb : nanW b = true) : Kb 60 #[wd a, wd b] w (wd theNaN) := by
  go_enter Try.func60, Try.ntmps60
  go_wp2_with (first
    | (go_at_call 44; refine (krNaN (by assumption) _).mono ?_; rintro e wz ⟨rfl, hw1⟩; have hw2 := hw1.symm; clear hw1; subst hw2)
    | (go_at_call 45; refine (krInfQ (by assumption) _).mono ?_; rintro e wz ⟨rfl, hw1⟩; have hw2 := hw1.symm; clear hw1; subst hw2)
    | (go_at_call 78; refine (krNeg0 (by assumption) _).mono ?_; rintro e wz ⟨rfl, hw1⟩; have hw2 := hw1.symm; clear hw1; subst hw2)
    | (go_at_call 77; refine (krNought (by assumption) _).mono ?_; rintro e wz ⟨rfl, hw1⟩; have hw2 := hw1.symm; clear hw1; subst hw2))
  go_ret
  exact ⟨rfl, Below.refl _ _⟩

theorem krmax2 (a b : Nat) (ha : a < 2 ^ 64) (hb : b < 2 ^ 64) (w : World) (na : nanW a = true) (nb : nanW b = false) : Kb 60 #[wd a, wd b] w (wd b) := by
  go_enter Try.func60, Try.ntmps60
  go_wp2_with (first
    | (go_at_call 44; refine (krNaN (by assumption) _).mono ?_; rintro e wz ⟨rfl, hw1⟩; have hw2 := hw1.symm; clear hw1; subst hw2)
    | (go_at_call 45; refine (krInfQ (by assumption) _).mono ?_; rintro e wz ⟨rfl, hw1⟩; have hw2 := hw1.symm; clear hw1; subst hw2)
    | (go_at_call 78; refine (krNeg0 (by assumption) _).mono ?_; rintro e wz ⟨rfl, hw1⟩; have hw2 := hw1.symm; clear hw1; subst hw2)
    | (go_at_call 77; refine (krNought (by assumption) _).mono ?_; rintro e wz ⟨rfl, hw1⟩; have hw2 := hw1.symm; clear hw1; subst hw2))
  go_ret
  exact ⟨rfl, Below.refl _ _⟩

theorem krmax3 (a b : Nat) (ha : a < 2 ^ 64) (hb : b < 2 ^ 64) (w : World) (na : nanW a = false) (nb : nanW b = true) : Kb 60 #[wd a, wd b] w (wd a) := by
  go_enter Try.func60, Try.ntmps60
  go_wp2_with (first
    | (go_at_call 44; refine (krNaN (by assumption) _).mono ?_; rintro e wz ⟨rfl, hw1⟩; have hw2 := hw1.symm; clear hw1; subst hw2)
    | (go_at_call 45; refine (krInfQ (by assumption) _).mono ?_; rintro e wz ⟨rfl, hw1⟩; have hw2 := hw1.symm; clear hw1; subst hw2)
    | (go_at_call 78; refine (krNeg0 (by assumption) _).mono ?_; rintro e wz ⟨rfl, hw1⟩; have hw2 := hw1.symm; clear hw1; subst hw2)
    | (go_at_call 77; refine (krNought (by assumption) _).mono ?_; rintro e wz ⟨rfl, hw1⟩; have hw2 := hw1.symm; clear hw1; subst hw2))
  go_ret
  exact ⟨rfl, Below.refl _ _⟩

theorem krmax4 (a b : Nat) (ha : a < 2 ^ 64) (hb : b < 2 ^ 64) (w : World) (na : nanW a = false) (nb : nanW b = false) (Z : Int) (k : Bool) (kc : Kb 63 #[wd a, wd b] w (.tuple #[.int .i64 Z, .bool k])) (hz : Z < 0) : Kb 60 #[wd a, wd b] w (wd b) := by
  have KC := Lib.hid kc
  clear kc
  go_enter Try.func60, Try.ntmps60
  go_wp2_with (first
    | (go_at_call 44; refine (krNaN (by assumption) _).mono ?_; rintro e wz ⟨rfl, hw1⟩; have hw2 := hw1.symm; clear hw1; subst hw2)
    | (go_at_call 45; refine (krInfQ (by assumption) _).mono ?_; rintro e wz ⟨rfl, hw1⟩; have hw2 := hw1.symm; clear hw1; subst hw2)
    | (go_at_call 78; refine (krNeg0 (by assumption) _).mono ?_; rintro e wz ⟨rfl, hw1⟩; have hw2 := hw1.symm; clear hw1; subst hw2)
    | (go_at_call 77; refine (krNought (by assumption) _).mono ?_; rintro e wz ⟨rfl, hw1⟩; have hw2 := hw1.symm; clear hw1; subst hw2)
    | (go_at_call 63; refine (KC.out).mono ?_; rintro e wk ⟨rfl, bk⟩; have BL := Lib.hid bk; clear bk))
  go_ret
  exact ⟨rfl, BL.out⟩

theorem krmax5 (a b : Nat) (ha : a < 2 ^ 64) (hb : b < 2 ^ 64) (w : World) (na : nanW a = false) (nb : nanW b = false) (Z : Int) (k : Bool) (kc : Kb 63 #[wd a, wd b] w (.tuple #[.int .i64 Z, .bool k])) (hz : ¬ Z < 0) : Kb 60 #[wd a, wd b] w (wd a) := by
  have KC := Lib.hid kc
  clear kc
  go_enter Try.func60, Try.ntmps60
  go_wp2_with (first
    | (go_at_call 44; refine (krNaN (by assumption) _).mono ?_; rintro e wz ⟨rfl, hw1⟩; have hw2 := hw1.symm; clear hw1; subst hw2)
    | (go_at_call 45; refine (krInfQ (by assumption) _).mono ?_; rintro e wz ⟨rfl, hw1⟩; have hw2 := hw1.symm; clear hw1; subst hw2)
    | (go_at_call 78; refine (krNeg0 (by assumption) _).mono ?_; rintro e wz ⟨rfl, hw1⟩; have hw2 := hw1.symm; clear hw1; subst hw2)
    | (go_at_call 77; refine (krNought (by assumption) _).mono ?_; rintro e wz ⟨rfl, hw1⟩; have hw2 := hw1.symm; clear hw1; subst hw2)
    | (go_at_call 63; refine (KC.out).mono ?_; rintro e wk ⟨rfl, bk⟩; have BL := Lib.hid bk; clear bk))
  go_ret
  exact ⟨rfl, BL.out⟩

theorem krMax {a b : Nat} (ha : a < 2 ^ 64) (hb : b < 2 ^ 64) (w : World) : Kb 60 #[wd a, wd b] w (wd (maxW a b)) := by
  cases na : nanW a <;> cases nb : nanW b
  · have kc := krCmp ha hb w
    rw [max_num na]
    by_cases hz : cmpC a b < 0
    · rw [if_pos hz]; exact krmax4 a b ha hb w na nb _ _ kc hz
    · rw [if_neg hz]; exact krmax5 a b ha hb w na nb _ _ kc hz
  · rw [max_num na, if_neg (by rw [(cmp_nan (.inr nb)).1]; decide)]; exact krmax3 a b ha hb w na nb
  · rw [(min_nan na nb).2]; exact krmax2 a b ha hb w na nb
  · rw [(min_nans na nb).2]; exact krmax1 a b ha hb w na nb

theorem kmax0 (a b v : Nat) (t : Bool) (w : World) (ho : (FloatKind.f64.format.order b a == some .gt) = t) (kp : Kp 94 #[wd a, wd b, .bool t] w (wd v)) : Kp 59 #[wd a, wd b] w (wd v) := by
  have KP := Lib.hid kp
  clear kp
  go_enter Try.func59, Try.ntmps59
  go_wp2_with (first
    | (go_at_call 65; refine (kof _ _).mono ?_; rintro e wz ⟨rfl, hw1⟩; have hw2 := hw1.symm; clear hw1; subst hw2)
    | (go_at_call 94; refine (KP.out).mono ?_; rintro e wz ⟨rfl, hw1⟩; have hw2 := hw1.symm; clear hw1; subst hw2))
  go_ret
  exact ⟨rfl, rfl⟩

theorem kmax (a b : Nat) (w : World) : Kp 59 #[wd a, wd b] w (wd (maxW a b)) := by
  cases na : nanW a
  · have hm := max_num (b := b) na
    by_cases hz : cmpC a b < 0
    · rw [hm, if_pos hz]; exact kmax0 a b _ true w (by rw [lt_ord.2]; exact decide_eq_true hz) (kpick3 a b w na)
    · rw [hm, if_neg hz]; exact kmax0 a b _ false w (by rw [lt_ord.2]; exact decide_eq_false hz) (kpick4 a b w na)
  · cases nb : nanW b
    · rw [(min_nan na nb).2]; exact kmax0 a b _ _ w rfl (kpick2 a b _ w na nb)
    · rw [(min_nans na nb).2]; exact kmax0 a b _ _ w rfl (kpick1 a b _ w na nb)

def nearW (a b : Nat) : Nat := opt (Ieee.double.div (wayV .down (opt (Ieee.double.add (opt (Ieee.double.mul a (opt (Ieee.double.div 4607182418800017408 b)))) 4602678819172646912))) (opt (Ieee.double.div 4607182418800017408 b)))
theorem div_lt64 (a b : Nat) : opt (Ieee.double.div a b) < 2 ^ 64 := opt_lt fun r h => Ieee.double.div_lt h
theorem mul_lt64 (a b : Nat) : opt (Ieee.double.mul a b) < 2 ^ 64 := opt_lt fun r h => Ieee.double.mul_lt h
theorem add_lt64 (a b : Nat) : opt (Ieee.double.add a b) < 2 ^ 64 := opt_lt fun r h => Ieee.double.add_lt h
theorem sub_lt64 (a b : Nat) : opt (Ieee.double.sub a b) < 2 ^ 64 := opt_lt fun r h => Ieee.double.sub_lt h
theorem knearest (a b : Nat) (w : World) : Kb 61 #[wd a, wd b] w (wd (nearW a b)) := by
  have BL := Lib.hid (Below.refl w.heap.size w)
  go_enter Try.func61, Try.ntmps61
  go_wp2_with (first
    | (go_at_call 23; refine (kdiv _ _ _).mono ?_; rintro e wk ⟨rfl, nk, hw⟩; have BL := Lib.hid (show Below w.heap.size w wk by rw [hw]; exact BL.out.trans (drew_below _ _ _)); clear hw)
    | (go_at_call 18; refine (kmul _ _ _).mono ?_; rintro e wk ⟨rfl, nk, hw⟩; have BL := Lib.hid (show Below w.heap.size w wk by rw [hw]; exact BL.out.trans (drew_below _ _ _)); clear hw)
    | (go_at_call 14; refine (kadd _ _ _).mono ?_; rintro e wk ⟨rfl, nk, hw⟩; have BL := Lib.hid (show Below w.heap.size w wk by rw [hw]; exact BL.out.trans (drew_below _ _ _)); clear hw)
    | (go_at_call 33; refine (kfloor _ _).mono ?_; rintro e wk ⟨rfl, nk, hw⟩; have BL := Lib.hid (show Below w.heap.size w wk by rw [hw]; exact BL.out.trans (drew_below _ _ _)); clear hw))
  go_ret
  exact ⟨rfl, BL.out⟩

theorem krnearest {a b : Nat} (ha : a < 2 ^ 64) (hb : b < 2 ^ 64) (w : World) : Kb 62 #[wd a, wd b] w (wd (nearW a b)) := by
  have f1 : 4607182418800017408 < 2 ^ 64 := by decide
  have f2 : 4602678819172646912 < 2 ^ 64 := by decide
  have f3 := div_lt64 4607182418800017408 b
  have f4 := mul_lt64 a (opt (Ieee.double.div 4607182418800017408 b))
  have f5 := add_lt64 (opt (Ieee.double.mul a (opt (Ieee.double.div 4607182418800017408 b)))) 4602678819172646912
  have f6 := wayV_lt (way := .down) (by decide) f5
  have BL := Lib.hid (Below.refl w.heap.size w)
  go_enter Try.func62, Try.ntmps62
  go_wp2_with (first
    | (go_at_call 55; refine (krdiv (by assumption) (by assumption) _).mono ?_; rintro e wk ⟨rfl, bk⟩; have BL := Lib.hid (BL.out.trans (bk.mono BL.out.size)); clear bk)
    | (go_at_call 54; refine (krmul (by assumption) (by assumption) _).mono ?_; rintro e wk ⟨rfl, bk⟩; have BL := Lib.hid (BL.out.trans (bk.mono BL.out.size)); clear bk)
    | (go_at_call 52; refine (kradd (by assumption) (by assumption) _).mono ?_; rintro e wk ⟨rfl, bk⟩; have BL := Lib.hid (BL.out.trans (bk.mono BL.out.size)); clear bk)
    | (go_at_call 41; refine (krfloor (by assumption) _).mono ?_; rintro e wk ⟨rfl, bk⟩; have BL := Lib.hid (BL.out.trans (bk.mono BL.out.size)); clear bk))
  go_ret
  exact ⟨rfl, BL.out⟩

end Go.Proofs.Ytoodbdjmbicaeaa
