/- The words of a double: rungs, magnitudes, order. No condition. -/
import Ieee.Arith
import Derived.Laws.FloatBits
namespace Go.Proofs.Ytoodbdjmbicaeaa
open Ieee

/-- The significand of a rung, and its place above the least. -/
def mg (r : Nat) : Nat := if r < 2 ^ 52 then r else 2 ^ 52 + r % 2 ^ 52
def pl (r : Nat) : Nat := r / 2 ^ 52 - 1
/-- A rung's magnitude, in units of the least place. -/
def val (r : Nat) : Nat := mg r * 2 ^ pl r
def rung (x : Nat) : Nat := x % 2 ^ 63
def isNeg (x : Nat) : Bool := x / 2 ^ 63 % 2 == 1
def infR : Nat := 2047 * 2 ^ 52
/-- A word's value, in units of the least place. -/
def ival (x : Nat) : Int := if isNeg x then -(val (rung x) : Int) else (val (rung x) : Int)
/-- A word that is a NaN. -/
def nanW (x : Nat) : Bool := infR < rung x

theorem rung_lt (x : Nat) : rung x < 2 ^ 63 := Nat.mod_lt _ (by decide)
theorem signW : double.signWeight = 2 ^ 63 := by decide
theorem binadeW : double.binade = 2 ^ 52 := by decide
theorem infW : double.infRung = infR := by decide
theorem leastW : double.leastPlace = -1074 := by decide
theorem infR_eq : infR = 9218868437227405312 := by decide

theorem read_eq (x : Nat) : double.read x = if rung x < infR then .number (isNeg x) (mg (rung x)) (-1074 + (pl (rung x) : Nat)) else if rung x = infR then .infinity (isNeg x) else .nan (isNeg x) (rung x - infR) := by
  unfold Format.read
  simp only [signW, binadeW, infW, leastW]
  show (if rung x < 2 ^ 52 then Datum.number (isNeg x) (rung x) (-1074) else if rung x < infR then .number (isNeg x) (2 ^ 52 + rung x % 2 ^ 52) (-1074 + (rung x / 2 ^ 52 - 1 : Nat)) else if rung x = infR then .infinity (isNeg x) else .nan (isNeg x) (rung x - infR)) = _
  have hi := infR_eq
  by_cases h1 : rung x < 2 ^ 52
  · rw [if_pos h1, if_pos (by omega)]
    have e : rung x / 2 ^ 52 = 0 := Nat.div_eq_of_lt h1
    unfold mg pl
    rw [if_pos h1, e]
    rfl
  · rw [if_neg h1]
    unfold mg pl
    rw [if_neg h1]

theorem val_hi {r q : Nat} (h : r < (q + 1) * 2 ^ 52) : val r < 2 ^ 52 * 2 ^ q := by
  unfold val mg pl
  by_cases h1 : r < 2 ^ 52
  · have e : r / 2 ^ 52 = 0 := Nat.div_eq_of_lt h1
    rw [if_pos h1, e]
    have := Nat.one_le_two_pow (n := q)
    calc r * 2 ^ (0 - 1) = r := by simp
      _ < 2 ^ 52 * 1 := by omega
      _ ≤ 2 ^ 52 * 2 ^ q := Nat.mul_le_mul_left _ this
  · rw [if_neg h1]
    have hm := Nat.mod_lt r (show 0 < 2 ^ 52 by decide)
    have hq : r / 2 ^ 52 ≤ q := by have := (Nat.div_lt_iff_lt_mul (show 0 < 2 ^ 52 by decide)).2 h; omega
    have hp : 1 ≤ r / 2 ^ 52 := by rw [Nat.le_div_iff_mul_le (by decide)]; omega
    calc (2 ^ 52 + r % 2 ^ 52) * 2 ^ (r / 2 ^ 52 - 1) < (2 ^ 52 * 2) * 2 ^ (r / 2 ^ 52 - 1) := Nat.mul_lt_mul_of_pos_right (by omega) (Nat.two_pow_pos _)
      _ = 2 ^ 52 * 2 ^ (r / 2 ^ 52 - 1 + 1) := by rw [show 2 ^ (r / 2 ^ 52 - 1 + 1) = 2 ^ (r / 2 ^ 52 - 1) * 2 from rfl, Nat.mul_assoc, Nat.mul_comm 2 (2 ^ (r / 2 ^ 52 - 1))]
      _ ≤ 2 ^ 52 * 2 ^ q := Nat.mul_le_mul_left _ (Nat.pow_le_pow_right (by decide) (by omega))

theorem val_lo {r q : Nat} (hq : 1 ≤ q) (h : q * 2 ^ 52 ≤ r) : 2 ^ 52 * 2 ^ (q - 1) ≤ val r := by
  have h1 : ¬ r < 2 ^ 52 := by omega
  have hd : q ≤ r / 2 ^ 52 := (Nat.le_div_iff_mul_le (by decide)).2 h
  unfold val mg pl
  rw [if_neg h1]
  exact Nat.mul_le_mul (by omega) (Nat.pow_le_pow_right (by decide) (by omega))

/-- Greater rungs have greater magnitudes. -/
theorem val_lt {r s : Nat} (h : r < s) : val r < val s := by
  have e1 := Nat.div_add_mod r (2 ^ 52)
  have e2 := Nat.div_add_mod s (2 ^ 52)
  have m1 := Nat.mod_lt r (show 0 < 2 ^ 52 by decide)
  have m2 := Nat.mod_lt s (show 0 < 2 ^ 52 by decide)
  have hle : r / 2 ^ 52 ≤ s / 2 ^ 52 := Nat.div_le_div_right (by omega)
  rcases Nat.lt_or_eq_of_le hle with hl | he
  · have a := val_hi (r := r) (q := r / 2 ^ 52) (by rw [Nat.add_mul]; omega)
    have b := val_lo (r := s) (q := r / 2 ^ 52 + 1) (by omega) (by rw [Nat.add_mul]; omega)
    exact Nat.lt_of_lt_of_le a b
  · have hmod : r % 2 ^ 52 < s % 2 ^ 52 := by omega
    unfold val mg pl
    rw [← he]
    refine Nat.mul_lt_mul_of_pos_right ?_ (Nat.two_pow_pos _)
    by_cases h1 : r < 2 ^ 52
    · have h2 : s < 2 ^ 52 := by
        have : r / 2 ^ 52 = 0 := Nat.div_eq_of_lt h1
        omega
      rw [if_pos h1, if_pos h2]
      exact h
    · rw [if_neg h1, if_neg (by omega)]
      omega
theorem val_le {r s : Nat} (h : r ≤ s) : val r ≤ val s := by
  rcases Nat.lt_or_eq_of_le h with h | h
  · exact Nat.le_of_lt (val_lt h)
  · rw [h]; exact Nat.le_refl _
theorem val_lt_iff {r s : Nat} : val r < val s ↔ r < s := ⟨fun h => Nat.lt_of_not_le fun h2 => absurd (val_le h2) (by omega), val_lt⟩
theorem val_inj {r s : Nat} (h : val r = val s) : r = s := by
  rcases Nat.lt_trichotomy r s with h1 | h1 | h1
  · have := val_lt h1; omega
  · exact h1
  · have := val_lt h1; omega
theorem val_zero : val 0 = 0 := by decide

theorem compare_congr {a b c d : Int} (h1 : a < b ↔ c < d) (h2 : a = b ↔ c = d) : compare a b = compare c d := by
  show compareOfLessAndEq a b = compareOfLessAndEq c d
  unfold compareOfLessAndEq
  simp only [h1, h2]
theorem signed_eq (s : Bool) (m up : Nat) : signed s m up = if s then -((m * 2 ^ up : Nat) : Int) else ((m * 2 ^ up : Nat) : Int) := by
  unfold signed
  rw [Nat.shiftLeft_eq]
theorem compare_scale {a b : Int} {k : Nat} (hk : 0 < k) : compare a b = compare (a * (k : Int)) (b * (k : Int)) := by
  have hk' : (0 : Int) < (k : Int) := by omega
  refine compare_congr ?_ ?_
  · exact (Int.mul_lt_mul_right hk').symm
  · constructor
    · intro h; rw [h]
    · intro h; exact Int.eq_of_mul_eq_mul_right (by omega) h

theorem ival_abs (x : Nat) : ival x = val (rung x) ∧ isNeg x = false ∨ ival x = -(val (rung x) : Int) ∧ isNeg x = true := by
  unfold ival
  cases isNeg x
  · exact .inl ⟨by simp, rfl⟩
  · exact .inr ⟨by simp, rfl⟩

/-- The order of two words that are no NaNs is that of their values. -/
theorem order_eq {x y : Nat} (hx : rung x ≤ infR) (hy : rung y ≤ infR) : double.order x y = some (compare (ival x) (ival y)) := by
  unfold Format.order
  rw [read_eq x, read_eq y]
  have hlt : ∀ a b : Int, a < b → compare a b = .lt := fun a b h => by show compareOfLessAndEq a b = _; unfold compareOfLessAndEq; rw [if_pos h]
  have hgt : ∀ a b : Int, b < a → compare a b = .gt := fun a b h => by show compareOfLessAndEq a b = _; unfold compareOfLessAndEq; rw [if_neg (by omega), if_neg (by omega)]
  have hpos : 0 < val infR := by have := val_lt (show 0 < infR by decide); rw [val_zero] at this; exact this
  by_cases h1 : rung x < infR
  · have hvx := val_lt h1
    rw [if_pos h1]
    by_cases h2 : rung y < infR
    · rw [if_pos h2]
      show some (compare (signed (isNeg x) (mg (rung x)) _) (signed (isNeg y) (mg (rung y)) _)) = _
      congr 1
      obtain ⟨p, hp⟩ : ∃ p, pl (rung x) = p := ⟨_, rfl⟩
      obtain ⟨q, hq⟩ : ∃ q, pl (rung y) = q := ⟨_, rfl⟩
      have vx : val (rung x) = mg (rung x) * 2 ^ p := by rw [← hp]; rfl
      have vy : val (rung y) = mg (rung y) * 2 ^ q := by rw [← hq]; rfl
      rw [hp, hq]
      have e1 : (-1074 + (p : Int) - min (-1074 + (p : Int)) (-1074 + (q : Int))).toNat = p - min p q := by omega
      have e2 : (-1074 + (q : Int) - min (-1074 + (p : Int)) (-1074 + (q : Int))).toNat = q - min p q := by omega
      rw [e1, e2, compare_scale (Nat.two_pow_pos (min p q)), signed_eq, signed_eq]
      have s1 : mg (rung x) * 2 ^ (p - min p q) * 2 ^ min p q = val (rung x) := by
        rw [vx, Nat.mul_assoc, ← Nat.pow_add]; congr 2; omega
      have s2 : mg (rung y) * 2 ^ (q - min p q) * 2 ^ min p q = val (rung y) := by
        rw [vy, Nat.mul_assoc, ← Nat.pow_add]; congr 2; omega
      have t1 : (if isNeg x = true then -((mg (rung x) * 2 ^ (p - min p q) : Nat) : Int) else ((mg (rung x) * 2 ^ (p - min p q) : Nat) : Int)) * ((2 ^ min p q : Nat) : Int) = ival x := by
        unfold ival
        rw [← s1]
        split
        · rw [Int.neg_mul, ← Int.natCast_mul]
        · rw [← Int.natCast_mul]
      have t2 : (if isNeg y = true then -((mg (rung y) * 2 ^ (q - min p q) : Nat) : Int) else ((mg (rung y) * 2 ^ (q - min p q) : Nat) : Int)) * ((2 ^ min p q : Nat) : Int) = ival y := by
        unfold ival
        rw [← s2]
        split
        · rw [Int.neg_mul, ← Int.natCast_mul]
        · rw [← Int.natCast_mul]
      rw [t1, t2]
    · have hy2 : rung y = infR := by omega
      rw [if_neg h2, if_pos hy2]
      show some (if isNeg y = true then Ordering.gt else .lt) = _
      congr 1
      rcases ival_abs y with ⟨e, f⟩ | ⟨e, f⟩ <;> rw [hy2] at e <;> rw [e, f]
      · refine (hlt _ _ ?_).symm
        rcases ival_abs x with ⟨e, _⟩ | ⟨e, _⟩ <;> rw [e] <;> omega
      · refine (hgt _ _ ?_).symm
        rcases ival_abs x with ⟨e, _⟩ | ⟨e, _⟩ <;> rw [e] <;> omega
  · have hx2 : rung x = infR := by omega
    rw [if_neg h1, if_pos hx2]
    by_cases h2 : rung y < infR
    · have hvy := val_lt h2
      rw [if_pos h2]
      show some (if isNeg x = true then Ordering.lt else .gt) = _
      congr 1
      rcases ival_abs x with ⟨e, f⟩ | ⟨e, f⟩ <;> rw [hx2] at e <;> rw [e, f]
      · refine (hgt _ _ ?_).symm
        rcases ival_abs y with ⟨e, _⟩ | ⟨e, _⟩ <;> rw [e] <;> omega
      · refine (hlt _ _ ?_).symm
        rcases ival_abs y with ⟨e, _⟩ | ⟨e, _⟩ <;> rw [e] <;> omega
    · have hy2 : rung y = infR := by omega
      rw [if_neg h2, if_pos hy2]
      show some (compare (isNeg y).toNat (isNeg x).toNat) = _
      congr 1
      rcases ival_abs x with ⟨e, f⟩ | ⟨e, f⟩ <;> rw [hx2] at e <;> rcases ival_abs y with ⟨e', f'⟩ | ⟨e', f'⟩ <;> rw [hy2] at e' <;> rw [e, f, e', f']
      · show Ordering.eq = _
        show _ = compareOfLessAndEq _ _
        unfold compareOfLessAndEq
        rw [if_neg (by omega), if_pos rfl]
      · exact (hgt _ _ (by omega)).symm
      · exact (hlt _ _ (by omega)).symm
      · show Ordering.eq = _
        show _ = compareOfLessAndEq _ _
        unfold compareOfLessAndEq
        rw [if_neg (by omega), if_pos rfl]

/-- Of a NaN there is none. -/
theorem order_nan {x y : Nat} (h : infR < rung x ∨ infR < rung y) : double.order x y = none := by
  unfold Format.order
  rw [read_eq x, read_eq y]
  rcases h with h | h
  · rw [if_neg (by omega), if_neg (by omega)]
    rfl
  · rw [if_neg (show ¬ rung y < infR by omega), if_neg (show ¬ rung y = infR by omega)]
    split
    · rfl
    · split <;> rfl
end Go.Proofs.Ytoodbdjmbicaeaa
