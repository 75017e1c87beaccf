/- Words normalised, and scaled by powers of two. No condition. -/
import Derived.Test.YtoodbdjmbicaeaaRef3
namespace Go.Proofs.Ytoodbdjmbicaeaa
open Ieee

/-- The place of a magnitude's first digit; its digits from there on, 53 of them; what stands behind the first. -/
def lgv (r : Nat) : Nat := (val r).log2
def manv (r : Nat) : Nat := val r * 2 ^ 52 / 2 ^ lgv r
def frv (r : Nat) : Nat := manv r - 2 ^ 52
/-- The rung of what is normalised, and the power that was taken out. -/
def nrR (r : Nat) : Nat := if r < 2 ^ 52 then (lgv r + 1) * 2 ^ 52 + frv r else r
def nrE (r : Nat) : Int := if r < 2 ^ 52 then -52 else 0

theorem val_pos {r : Nat} (h : r ≠ 0) : val r ≠ 0 := by
  have := val_lt (show 0 < r by omega)
  rw [val_zero] at this
  omega
theorem man_norm {r : Nat} (h : 2 ^ 52 ≤ r) : lgv r = 52 + pl r ∧ manv r = mg r ∧ frv r = r % 2 ^ 52 ∧ pl r + 1 = r / 2 ^ 52 := by
  have hm : mg r = 2 ^ 52 + r % 2 ^ 52 := by unfold mg; rw [if_neg (by omega)]
  have hml := mg_lt r
  have hp : pl r + 1 = r / 2 ^ 52 := by unfold pl; omega
  have hv : val r = mg r * 2 ^ pl r := rfl
  have hm0 : mg r ≠ 0 := by omega
  have hl : lgv r = 52 + pl r := by
    unfold lgv
    have h0 : val r ≠ 0 := val_pos (by omega)
    have h1 : 52 + pl r ≤ (val r).log2 := (Nat.le_log2 h0).2 (by rw [hv, Nat.pow_add]; exact Nat.mul_le_mul_right _ (by omega))
    have h2 : (val r).log2 < 53 + pl r := (Nat.log2_lt h0).2 (by rw [hv, Nat.pow_add]; exact Nat.mul_lt_mul_of_pos_right (by omega) (Nat.two_pow_pos _))
    omega
  have hmv : manv r = mg r := by
    unfold manv
    rw [hl, hv, Nat.pow_add, Nat.mul_assoc, Nat.mul_comm (2 ^ pl r)]
    exact Nat.mul_div_cancel _ (Nat.mul_pos (Nat.two_pow_pos _) (Nat.two_pow_pos _))
  exact ⟨hl, hmv, by unfold frv; rw [hmv, hm]; omega, hp⟩
theorem man_sub {r : Nat} (h : r < 2 ^ 52) (h0 : r ≠ 0) : lgv r ≤ 51 ∧ manv r = r * 2 ^ (52 - lgv r) ∧ 2 ^ 52 ≤ manv r ∧ manv r < 2 ^ 53 := by
  have hv : val r = r := by unfold val mg pl; rw [if_pos h, Nat.div_eq_of_lt h]; simp
  have hl : lgv r = r.log2 := by unfold lgv; rw [hv]
  have h1 := Nat.log2_self_le h0
  have h2 : r < 2 ^ (r.log2 + 1) := Nat.lt_log2_self
  have h51 : r.log2 ≤ 51 := by have := (Nat.log2_lt h0).2 h; omega
  rw [← hl] at h1 h2 h51
  have hm : manv r = r * 2 ^ (52 - lgv r) := by
    unfold manv
    rw [hv]
    have : 2 ^ 52 = 2 ^ (52 - lgv r) * 2 ^ lgv r := by rw [← Nat.pow_add]; congr 1; omega
    rw [this, ← Nat.mul_assoc]
    exact Nat.mul_div_cancel _ (Nat.two_pow_pos _)
  refine ⟨h51, hm, ?_, ?_⟩
  · rw [hm]
    have a : 2 ^ lgv r * 2 ^ (52 - lgv r) ≤ r * 2 ^ (52 - lgv r) := Nat.mul_le_mul_right _ h1
    rw [← Nat.pow_add, show lgv r + (52 - lgv r) = 52 by omega] at a
    exact a
  · rw [hm]
    have a : r * 2 ^ (52 - lgv r) < 2 ^ (lgv r + 1) * 2 ^ (52 - lgv r) := Nat.mul_lt_mul_of_pos_right h2 (Nat.two_pow_pos _)
    rw [← Nat.pow_add, show lgv r + 1 + (52 - lgv r) = 53 by omega] at a
    exact a
/-- What is normalised: its rung is normal; its fraction; its exponent. -/
theorem nr_spec {r : Nat} (h0 : r ≠ 0) (hf : r < infR) : 2 ^ 52 ≤ nrR r ∧ nrR r < infR ∧ nrR r % 2 ^ 52 = frv r ∧ nrE r + (nrR r / 2 ^ 52 : Nat) = (lgv r : Int) - 51 ∧ frv r < 2 ^ 52 ∧ lgv r ≤ 2097 := by
  have hi := infR_eq
  unfold nrR nrE
  by_cases h : r < 2 ^ 52
  · obtain ⟨a1, a2, a3, a4⟩ := man_sub h h0
    rw [if_pos h, if_pos h]
    have hfr : frv r < 2 ^ 52 := by unfold frv; omega
    exact ⟨by omega, by omega, by omega, by omega, hfr, by omega⟩
  · obtain ⟨a1, a2, a3, a4⟩ := man_norm (r := r) (by omega)
    rw [if_neg h, if_neg h]
    have hfr : frv r < 2 ^ 52 := by rw [a3]; exact Nat.mod_lt _ (by decide)
    have : r / 2 ^ 52 < 2047 := (Nat.div_lt_iff_lt_mul (by decide)).2 (by omega)
    exact ⟨by omega, hf, a3.symm, by omega, hfr, by omega⟩
theorem man_val {r : Nat} (h0 : r ≠ 0) : (2 ^ 52 + frv r) * 2 ^ lgv r = val r * 2 ^ 52 := by
  by_cases h : r < 2 ^ 52
  · obtain ⟨a1, a2, a3, a4⟩ := man_sub h h0
    have hv : val r = r := by unfold val mg pl; rw [if_pos h, Nat.div_eq_of_lt h]; simp
    have e : 2 ^ 52 + frv r = manv r := by unfold frv; omega
    rw [e, a2, hv, Nat.mul_assoc, ← Nat.pow_add, show 52 - lgv r + lgv r = 52 by omega]
  · obtain ⟨a1, a2, a3, a4⟩ := man_norm (r := r) (by omega)
    have hm : mg r = 2 ^ 52 + r % 2 ^ 52 := by unfold mg; rw [if_neg h]
    have hv : val r = mg r * 2 ^ pl r := rfl
    rw [a3, ← hm, a1, hv, Nat.pow_add, Nat.mul_comm (2 ^ 52), Nat.mul_assoc]
/-- Times 2 to the 52: exact, of what is little. -/
theorem nr_mul {x : Nat} (h : rung x < 2 ^ 52) (h0 : rung x ≠ 0) : opt (double.mul x 4841369599423283200) = double.word (isNeg x) (nrR (rung x)) := by
  have hi := infR_eq
  have fa : rung x < infR := by omega
  rw [mul_ref fa (by decide), roundW_plain]
  have e1 : isNeg 4841369599423283200 = false := by decide
  have e2 : mg (rung 4841369599423283200) = 2 ^ 52 := by decide
  have e3 : pl (rung 4841369599423283200) = 1074 := by decide
  have e4 : mg (rung x) = rung x := by unfold mg; rw [if_pos h]
  have e5 : pl (rung x) = 0 := by unfold pl; rw [Nat.div_eq_of_lt h]
  rw [e1, e2, e3, e4, e5, Bool.xor_false]
  obtain ⟨a1, a2, a3, a4, a5, a6⟩ := nr_spec h0 fa
  obtain ⟨b1, b2, b3, b4⟩ := man_sub h h0
  have hv : val (rung x) = rung x := by unfold val; rw [e4, e5]; simp
  have hr : rnd (rung x * 2 ^ 52) (-1074 + ((0 : Nat) : Int) + (-1074 + ((1074 : Nat) : Int))) = nrR (rung x) := by
    refine rnd_val 0 0 (by omega) ?_
    have hnr : nrR (rung x) = lgv (rung x) * 2 ^ 52 + (2 ^ 52 + frv (rung x)) := by unfold nrR; rw [if_pos h]; omega
    rw [hnr, val_at (.inr (by omega)) (by omega), man_val h0, hv]
  rw [hr, Nat.min_eq_left (by omega)]

/-- A word scaled by a power of two, rounded. -/
def ldW (x : Nat) (n : Int) : Nat := double.word (isNeg x) (min (rnd (mg (rung x)) (-1074 + (pl (rung x) : Int) + n)) infR)
end Go.Proofs.Ytoodbdjmbicaeaa
