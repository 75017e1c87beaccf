/- Rounding as the document has it: by its own steps; and with something less besides. No condition. -/
import Derived.Test.YtoodbdjmbicaeaaNear
import Derived.Test.YtoodbdjmbicaeaaBig
namespace Go.Proofs.Ytoodbdjmbicaeaa
open Ieee

/-- Is one more taken? -/
def upR (n s : Nat) (more : Bool) : Bool := n.testBit (s - 1) && (n % 2 ^ (s - 1) != 0 || more || (n / 2 ^ s) % 2 == 1)

theorem log2_two (n : Nat) (b : Bool) (hn : n ≠ 0) : (2 * n + b.toNat).log2 + 1 = size n + 1 := by
  have hb := Bool.toNat_le b
  have h0 : 2 * n + b.toNat ≠ 0 := by omega
  unfold size
  rw [if_neg hn]
  have h1 := Nat.log2_self_le hn
  have h2 : n < 2 ^ (n.log2 + 1) := Nat.lt_log2_self
  have h3 : n.log2 + 1 ≤ (2 * n + b.toNat).log2 := (Nat.le_log2 h0).2 (by rw [Nat.pow_succ]; omega)
  have h4 : (2 * n + b.toNat).log2 < n.log2 + 2 := (Nat.log2_lt h0).2 (by rw [Nat.pow_succ]; omega)
  omega

/-- The rung, by the document's steps: something falls. -/
theorem round_down {n : Nat} {more : Bool} {e s : Int} (hn : n ≠ 0) (hs : s = max ((size n : Int) - 53) (-1074 - e)) {S : Nat} (hS : s = (S : Int)) (hS0 : 0 < S) :
    rnd (2 * n + more.toNat) (e - 1) = (e + s + 1074).toNat * 2 ^ 52 + (n / 2 ^ S + (upR n S more).toNat) := by
  have hb := Bool.toNat_le more
  have hl := log2_two n more hn
  unfold rnd
  rw [if_neg (by omega)]
  obtain ⟨lg, hlg⟩ : ∃ lg, (2 * n + more.toNat).log2 = lg := ⟨_, rfl⟩
  rw [hlg] at hl ⊢
  have e1 : max (e - 1 + (lg : Int) - 52) (-1074) = e + s := by omega
  rw [e1]
  have e2 : (e + s - -1074).toNat = (e + s + 1074).toNat := by omega
  have e3 : (e - 1 - (e + s)).toNat = 0 := by omega
  have e4 : (e + s - (e - 1)).toNat = S + 1 := by omega
  rw [e2, e3, e4, Nat.shiftLeft_eq, Nat.pow_zero, Nat.mul_one]
  congr 1
  obtain ⟨k, hk, k1, k2, k3, k4, k5, k6⟩ := cut_even false (2 * n + more.toNat) (S + 1)
  rw [hk]
  obtain ⟨low, hlow⟩ : ∃ low, n / 2 ^ S = low := ⟨_, rfl⟩
  obtain ⟨z, hz⟩ : ∃ z, n % 2 ^ S = z := ⟨_, rfl⟩
  obtain ⟨h, hh⟩ : ∃ h, 2 ^ (S - 1) = h := ⟨_, rfl⟩
  have hhp : 0 < h := by rw [← hh]; exact Nat.two_pow_pos _
  have hT : 2 ^ S = 2 * h := by rw [← hh, ← Nat.pow_succ']; congr 1; omega
  have hT2 : 2 ^ (S + 1) = 4 * h := by rw [Nat.pow_succ, hT]; omega
  have hnz : n = low * (2 * h) + z := by rw [← hlow, ← hz, ← hT, Nat.mul_comm]; exact (Nat.div_add_mod n _).symm
  have hzl : z < 2 * h := by rw [← hz, ← hT]; exact Nat.mod_lt _ (Nat.two_pow_pos _)
  have e5 : (2 * n + more.toNat) / 2 ^ (S + 1) = low := by
    rw [hT2]
    apply Nat.div_eq_of_lt_le
    · rw [hnz]; have : low * (4 * h) = 2 * (low * (2 * h)) := by rw [Nat.mul_left_comm low 4 h, Nat.mul_left_comm low 2 h]; omega
      omega
    · rw [hnz]; have : (low + 1) * (4 * h) = 2 * (low * (2 * h)) + 4 * h := by rw [Nat.add_mul, Nat.one_mul, Nat.mul_left_comm low 4 h, Nat.mul_left_comm low 2 h]; omega
      omega
  rw [e5] at k5 k6
  rw [hT2] at k1 k2 k3 k4
  have hbit : n.testBit (S - 1) = decide (h ≤ z) := by
    rw [Nat.testBit_eq_decide_div_mod_eq, hh]
    have h1 : n / h = 2 * low + z / h := by
      rw [hnz, show low * (2 * h) + z = z + (2 * low) * h by rw [Nat.mul_left_comm, Nat.mul_assoc]; omega, Nat.add_mul_div_right _ _ hhp]; omega
    rw [h1]
    by_cases hq : h ≤ z
    · have : z / h = 1 := Nat.div_eq_of_lt_le (by omega) (by omega)
      rw [this, decide_eq_true hq]
      exact decide_eq_true (by omega)
    · have : z / h = 0 := Nat.div_eq_of_lt (by omega)
      rw [this, decide_eq_false hq]
      exact decide_eq_false (by omega)
  have hlost : (n % h != 0) = (z % h != 0) := by
    rw [hnz, show low * (2 * h) + z = z + (2 * low) * h by rw [Nat.mul_left_comm, Nat.mul_assoc]; omega, Nat.add_mul_mod_self_right]
  have hup : upR n S more = (decide (h ≤ z) && (z % h != 0 || more || low % 2 == 1)) := by
    unfold upR
    rw [hbit, hh, hlost, hlow]
  rw [hlow, hup]
  have hkk : k = low ∨ k = low + 1 := by omega
  have p1 : 2 * (low * (4 * h)) = 4 * (low * (2 * h)) := by rw [Nat.mul_left_comm low 4 h, Nat.mul_left_comm low 2 h]; omega
  have p2 : 2 * ((low + 1) * (4 * h)) = 4 * (low * (2 * h)) + 8 * h := by rw [Nat.add_mul, Nat.one_mul, Nat.mul_left_comm low 4 h, Nat.mul_left_comm low 2 h]; omega
  by_cases hq : h ≤ z
  · rw [decide_eq_true hq, Bool.true_and]
    by_cases hz2 : z = h
    · have h0 : (z % h != 0) = false := by rw [hz2, Nat.mod_self]; rfl
      rw [h0, Bool.false_or]
      cases more
      · simp only [Bool.toNat_false, Nat.add_zero, Bool.false_or] at *
        rcases hkk with hk2 | hk2
        · rw [hk2] at k3 k4
          have := k4 (by omega)
          have h3 : (low % 2 == 1) = false := by simp; omega
          rw [h3]; simp; omega
        · rw [hk2] at k1 k2
          have := k2 (by omega)
          have h3 : (low % 2 == 1) = true := by simp; omega
          rw [h3]; simp; omega
      · simp only [Bool.toNat_true, Bool.true_or] at *
        rcases hkk with hk2 | hk2
        · rw [hk2] at k3; omega
        · omega
    · have hzm : z % h = z - h := by
        rw [Nat.mod_eq_sub_mod hq, Nat.mod_eq_of_lt (by omega)]
      have h0 : (z % h != 0) = true := by rw [hzm]; simp; omega
      rw [h0, Bool.true_or, Bool.true_or]
      simp only [Bool.toNat_true]
      rcases hkk with hk2 | hk2
      · rw [hk2] at k3; omega
      · omega
  · rw [decide_eq_false hq, Bool.false_and]
    simp only [Bool.toNat_false]
    rcases hkk with hk2 | hk2
    · omega
    · rw [hk2] at k1; omega

/-- Nothing falls. -/
theorem round_up {n : Nat} {e s : Int} (hn : n ≠ 0) (hs : s = max ((size n : Int) - 53) (-1074 - e)) {S : Nat} (hS : -s = (S : Int)) :
    rnd (2 * n) (e - 1) = (e + s + 1074).toNat * 2 ^ 52 + n * 2 ^ S := by
  have hl := log2_two n false hn
  simp only [Bool.toNat_false, Nat.add_zero] at hl
  unfold rnd
  rw [if_neg (by omega)]
  obtain ⟨lg, hlg⟩ : ∃ lg, (2 * n).log2 = lg := ⟨_, rfl⟩
  rw [hlg] at hl ⊢
  have e1 : max (e - 1 + (lg : Int) - 52) (-1074) = e + s := by omega
  rw [e1]
  have e2 : (e + s - -1074).toNat = (e + s + 1074).toNat := by omega
  rw [e2, Nat.shiftLeft_eq]
  congr 1
  by_cases h0 : S = 0
  · have e3 : (e - 1 - (e + s)).toNat = 0 := by omega
    have e4 : (e + s - (e - 1)).toNat = 1 := by omega
    rw [e3, e4, h0, Nat.pow_zero, Nat.mul_one, Nat.mul_one]
    obtain ⟨k, hk, k1, k2, k3, k4, k5, k6⟩ := cut_even false (2 * n) 1
    rw [hk]
    have : (2 * n) / 2 ^ 1 = n := by omega
    omega
  · have e3 : (e - 1 - (e + s)).toNat = S - 1 := by omega
    have e4 : (e + s - (e - 1)).toNat = 0 := by omega
    rw [e3, e4]
    obtain ⟨k, hk, k1, k2, k3, k4, k5, k6⟩ := cut_even false (2 * n * 2 ^ (S - 1)) 0
    rw [hk]
    rw [Nat.pow_zero] at k1 k3
    have h2 : 2 * n * 2 ^ (S - 1) = n * 2 ^ S := by
      rw [Nat.mul_comm 2 n, Nat.mul_assoc, ← Nat.pow_succ']
      congr 2
      omega
    rw [← h2]
    omega
/-- In halves. -/
theorem rnd_double (m : Nat) (p : Int) : rnd (2 * m) (p - 1) = rnd m p := by
  obtain ⟨D, hD⟩ : ∃ D : Nat, (D : Int) ≥ 1 - (p + 1074) := ⟨(1 - (p + 1074)).toNat, by omega⟩
  obtain ⟨P, hP⟩ : ∃ P : Nat, p - 1 + 1074 + D = P := ⟨(p - 1 + 1074 + D).toNat, by omega⟩
  have h1 := rnd_near (2 * m) (p - 1) D P hP
  have h2 := rnd_near m p D (P + 1) (by omega)
  have e : 2 * m * 2 ^ P = m * 2 ^ (P + 1) := by rw [Nat.pow_succ, Nat.mul_comm 2 m, Nat.mul_assoc, Nat.mul_comm 2]
  rw [e] at h1
  exact h1.unique h2
end Go.Proofs.Ytoodbdjmbicaeaa
